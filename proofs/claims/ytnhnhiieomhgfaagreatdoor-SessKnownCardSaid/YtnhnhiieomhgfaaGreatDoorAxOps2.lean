/-
  AX: operations: comparisons at large, slices, the built-in functions.
-/
import Derived.Test.YtnhnhiieomhgfaaGreatDoorAxOps1
namespace Go.AX
open Go.RowKit

section
variable {P : Program} {N : NN} {φ : Phi} {h : H} {w : World}

theorem VR_int_inv {a : AV} {k : IntKind} {n : Int} (h : VR φ a (.int k n)) : a = .int k n := by
  cases a with
  | slice b o len c => obtain ⟨a, c, e⟩ := VR_slice_some h; cases e
  | int k' n' => simp at h; obtain ⟨rfl, rfl⟩ := h; rfl
  | _ => simp at h

theorem VR_string_inv {a : AV} {s : ByteArray} (h : VR φ a (.string s)) : a = .str (bytesOf s) := by
  cases a with
  | slice b o len c => obtain ⟨a, c, e⟩ := VR_slice_some h; cases e
  | str l => simp at h; rw [h]
  | _ => simp at h

theorem VR_float_inv {a : AV} {k : FloatKind} {n : Nat} (h : VR φ a (.float k n)) : False := by
  cases a with
  | slice b o len c => obtain ⟨a, c, e⟩ := VR_slice_some h; cases e
  | _ => simp at h

theorem VR_complex_inv {a : AV} {k : FloatKind} {n m : Nat} (h : VR φ a (.complex k n m)) : False := by
  cases a with
  | slice b o len c => obtain ⟨a, c, e⟩ := VR_slice_some h; cases e
  | _ => simp at h

theorem VR_nilIface_inv {a : AV} (h : VR φ a .nilIface) : a = .nilIface := by
  cases a with
  | slice b o len c => obtain ⟨a, c, e⟩ := VR_slice_some h; cases e
  | nilIface => rfl
  | _ => simp at h

theorem VR_agg_inv {a : AV} {c : Array Value} (h : VR φ a (.agg c)) : ∃ l, a = .agg l := by
  cases a with
  | slice b o len c => obtain ⟨a, c, e⟩ := VR_slice_some h; cases e
  | agg l => exact ⟨l, rfl⟩
  | _ => simp at h

theorem binOp_eql_any (t : TypeId) (x y : Value) (h1 : ¬ ∃ k a k' b, x = .int k a ∧ y = .int k' b) (h2 : ¬ ∃ a b, x = .string a ∧ y = .string b)
    (h3 : ¬ ∃ k a, x = .float k a) (h4 : ¬ ∃ k a b, x = .complex k a b) :
    binOp .eql t x y = (do pure (.bool (← Op.equal t x y))) ∧ binOp .neq t x y = (do pure (.bool (!(← Op.equal t x y)))) := by
  cases x <;> cases y <;> first
    | exact ⟨rfl, rfl⟩
    | exact absurd ⟨_, _, _, _, rfl, rfl⟩ h1
    | exact absurd ⟨_, _, rfl, rfl⟩ h2
    | exact absurd ⟨_, _, rfl⟩ h3
    | exact absurd ⟨_, _, _, rfl⟩ h4

theorem guardEq_run {op : BinOp} {t : TypeId} {x y : Operand} {a b : AV} {ca cb : Value} (h : guardEq P t x y a b = true) (ha : VR φ a ca) (hb : VR φ b cb) :
    (eqGuard op t x y ca cb).run P w = .ok () w := by
  by_cases h1 : ca = .nilIface ∧ cb = .nilIface
  · obtain ⟨rfl, rfl⟩ := h1
    have := VR_nilIface_inv ha; subst this
    have := VR_nilIface_inv hb; subst this
    simp only [guardEq, Bool.or_eq_true] at h
    rcases h with h | h
    · cases x <;> simp [isConstB] at h
      rw [eqGuard_nil_constL]; rfl
    · cases y <;> simp [isConstB] at h
      rw [eqGuard_nil_constR]; rfl
  · by_cases h2 : ∃ u v, ca = .agg u ∧ cb = .agg v
    · obtain ⟨u, v, rfl, rfl⟩ := h2
      obtain ⟨l, rfl⟩ := VR_agg_inv ha
      obtain ⟨l', rfl⟩ := VR_agg_inv hb
      simp only [guardEq, Bool.not_eq_true'] at h
      exact run_eqGuard_agg w op t x y u v h
    · have : eqGuard op t x y ca cb = pure () := by
        cases ca <;> cases cb <;> first
          | (cases op <;> rfl)
          | exact absurd ⟨rfl, rfl⟩ h1
          | exact absurd ⟨_, _, rfl, rfl⟩ h2
      rw [this]; rfl

/-- The operation's value; the world is as it was. -/
def Pu (P : Program) (φ : Phi) (w : World) (m : Sem Value) (v : AV) : Prop := ∃ cv, m.run P w = .ok cv w ∧ VR φ v cv

theorem binA_rel {op : BinOp} {t : TypeId} {x y : Operand} {a b v : AV} {ca cb : Value} (h : binA P op t x y a b = some v) (ha : VR φ a ca) (hb : VR φ b cb) :
    Pu P φ w (do eqGuard op t x y ca cb; binOp op t ca cb) v := by
  unfold binA at h
  split at h
  · rename_i k m k' n
    simp only [VR_int] at ha hb; subst ha; subst hb
    have hg : ∀ op, eqGuard op t x y (.int k m) (.int k' n) = pure () := fun op => eqGuard_at_int ..
    split at h
    · obtain ⟨cv, h1, h2⟩ := shiftB_rel (φ := φ) (P := P) (w := w) (t := t) (yk := k') h (.inl rfl)
      exact ⟨cv, by simp only [Sem.run_bind, hg, Sem.run_pure, Result.andThen_ok, h1], h2⟩
    · obtain ⟨cv, h1, h2⟩ := shiftB_rel (φ := φ) (P := P) (w := w) (t := t) (yk := k') h (.inr rfl)
      exact ⟨cv, by simp only [Sem.run_bind, hg, Sem.run_pure, Result.andThen_ok, h1], h2⟩
    · rename_i n1 n2
      split at h
      · rename_i hk
        have := eqB_eq hk; subst this
        obtain ⟨cv, h1, h2⟩ := intB_rel (φ := φ) (P := P) (w := w) (t := t) h ⟨n1, n2⟩
        exact ⟨cv, by simp only [Sem.run_bind, hg, Sem.run_pure, Result.andThen_ok, h1], h2⟩
      · cases h
  · rename_i s u
    simp only [VR_str] at ha hb; obtain ⟨ca, rfl, rfl⟩ := ha; obtain ⟨cb, rfl, rfl⟩ := hb
    obtain ⟨cv, h1, h2⟩ := strB_rel (φ := φ) (P := P) (w := w) (t := t) h
    exact ⟨cv, by simp only [Sem.run_bind, eqGuard_at_string, Sem.run_pure, Result.andThen_ok, h1], h2⟩
  · rename_i n1 n2
    have q1 : ¬ ∃ k a k' b, ca = .int k a ∧ cb = .int k' b := fun ⟨k, a', k', b', e1, e2⟩ => by
      subst e1; subst e2; exact n1 _ _ _ _ (VR_int_inv ha) (VR_int_inv hb)
    have q2 : ¬ ∃ a b, ca = .string a ∧ cb = .string b := fun ⟨a', b', e1, e2⟩ => by
      subst e1; subst e2; exact n2 _ _ (VR_string_inv ha) (VR_string_inv hb)
    have q3 : ¬ ∃ k a, ca = .float k a := fun ⟨k, a', e1⟩ => by subst e1; exact VR_float_inv ha
    have q4 : ¬ ∃ k a b, ca = .complex k a b := fun ⟨k, a', b', e1⟩ => by subst e1; exact VR_complex_inv ha
    obtain ⟨e1, e2⟩ := binOp_eql_any t ca cb q1 q2 q3 q4
    split at h
    · split at h
      · rename_i hg
        split at h
        · rename_i r he
          cases h
          have := eqA_rel (φ := φ) (w := w) 12 10000 (by omega) t a b ca cb r he ha hb
          refine ⟨.bool r, ?_, VR_bool.2 rfl⟩
          have this' : (Op.equal t ca cb).run P w = .ok r w := this
          simp only [Sem.run_bind, guardEq_run hg ha hb, Result.andThen_ok, e1, this', Sem.run_pure]
        · cases h
      · cases h
    · split at h
      · rename_i hg
        split at h
        · rename_i r he
          cases h
          have := eqA_rel (φ := φ) (w := w) 12 10000 (by omega) t a b ca cb r he ha hb
          refine ⟨.bool !r, ?_, VR_bool.2 rfl⟩
          have this' : (Op.equal t ca cb).run P w = .ok r w := this
          simp only [Sem.run_bind, guardEq_run hg ha hb, Result.andThen_ok, e2, this', Sem.run_pure]
        · cases h
      · cases h
    · cases h

theorem unA_rel {op : UnOp} {x v : AV} {cx : Value} (h : unA op x = some v) (hx : VR φ x cx) : Pu P φ w (Op.unary op cx) v := by
  unfold unA at h
  split at h
  · simp only [VR_int] at hx; subst hx
    simp only [forceInt_eq, wrapF_eq, Option.some.injEq] at h; subst h
    exact ⟨_, rfl, VR_int.2 rfl⟩
  · rename_i k n
    simp only [VR_int] at hx; subst hx
    obtain ⟨cv, h1, h2⟩ := intB_rel (φ := φ) (P := P) (w := w) (t := 0) h ⟨by simp, by simp⟩
    refine ⟨cv, ?_, h2⟩
    rw [← h1]
    have : allBits k = (if k.signed then -1 else k.max) := by cases k <;> rfl
    simp [Op.unary, binOp, this]
  · simp only [VR_bool] at hx; subst hx
    simp only [Option.some.injEq] at h; subst h
    exact ⟨_, rfl, VR_bool.2 rfl⟩
  · cases h

/-! ## slices -/

def OptR (φ : Phi) : Option AV → Option Value → Prop
  | none, v => v = none
  | some a, v => ∃ c, v = some c ∧ VR φ a c

theorem bnd_rel {x : AV} {cx : Value} {hi i : Nat} (h : bnd x hi = some i) (hx : VR φ x cx) (hi' : Nat) (hle : hi ≤ hi') (code : BoundsCode) :
    (Instr.sliceBound cx hi' code).run P w = .ok i w ∧ i ≤ hi := by
  unfold bnd at h
  split at h
  · rename_i k n
    split at h
    · rename_i hb
      cases h
      have hb' := Nat.le_of_ble_eq_true hb
      simp only [VR_int] at hx; subst hx
      refine ⟨?_, hb'⟩
      have e : (0 : Int) ≤ Int.ofNat i ∧ Int.ofNat i ≤ (hi' : Int) := by constructor <;> simp <;> omega
      simp only [Instr.sliceBound, asIntOf, Sem.run_bind, Sem.run_pure, Result.andThen_ok]
      rw [if_pos e]; rfl
    · cases h
  · cases h

theorem bndO_rel {x : Option AV} {cx : Option Value} {hi d i : Nat} (h : bndO x hi d = some i) (hx : OptR φ x cx) (hi' d' : Nat) (hle : hi ≤ hi') (hd : x = none → d' = d) (code : BoundsCode) :
    ((match cx with | some v => Instr.sliceBound v hi' code | none => pure d') : Sem Nat).run P w = .ok i w ∧ (x = none ∨ i ≤ hi) := by
  cases x with
  | none =>
    simp only [OptR] at hx; subst hx
    simp only [bndO, Option.some.injEq] at h; subst h
    exact ⟨by rw [hd rfl]; rfl, .inl rfl⟩
  | some x =>
    obtain ⟨c, rfl, hc⟩ := hx
    have := bnd_rel (P := P) (w := w) h hc hi' hle code
    exact ⟨this.1, .inr this.2⟩

theorem sliceBounds_rel {isS : Bool} {lo hi mx : Option AV} {clo chi cmx : Option Value} {len C m hh l : Nat} (hlo : OptR φ lo clo) (hhi : OptR φ hi chi) (hmx : OptR φ mx cmx)
    (h0 : (mx.isSome && hi.isNone) = false) (h1 : mx = none ∧ C = m ∨ ∃ v, mx = some v ∧ ∃ b, b ≤ C ∧ bnd v b = some m)
    (h2 : hi = none ∧ hh = len ∨ ∃ v, hi = some v ∧ ∃ b, b ≤ m ∧ bnd v b = some hh) (h3 : bndO lo hh 0 = some l) :
    (Instr.sliceBounds isS len C clo chi cmx).run P w = .ok (l, hh, m) w := by
  have e3 : ∀ (code : BoundsCode), ((match clo with | some v => Instr.sliceBound v hh code | none => pure 0) : Sem Nat).run P w = .ok l w := fun code =>
    (bndO_rel (P := P) (w := w) h3 hlo hh 0 (Nat.le_refl _) (fun _ => rfl) code).1
  rcases h1 with ⟨rfl, rfl⟩ | ⟨v, rfl, b, hb, hv⟩
  · simp only [OptR] at hmx; subst hmx
    rcases h2 with ⟨rfl, rfl⟩ | ⟨v, rfl, b, hb, hv⟩
    · simp only [OptR] at hhi; subst hhi
      cases lo with
      | none =>
        simp only [OptR] at hlo; subst hlo
        simp only [bndO, Option.some.injEq] at h3; subst h3
        rfl
      | some x =>
        obtain ⟨c, rfl, hc⟩ := hlo
        have := (bnd_rel (P := P) (w := w) h3 hc hh (Nat.le_refl _) .sliceB).1
        simp [Instr.sliceBounds, this]
    · obtain ⟨c, rfl, hc⟩ := hhi
      have q := fun code => (bnd_rel (P := P) (w := w) hv hc C hb code).1
      cases lo with
      | none =>
        simp only [OptR] at hlo; subst hlo
        simp only [bndO, Option.some.injEq] at h3; subst h3
        simp [Instr.sliceBounds, q]
      | some x =>
        obtain ⟨c', rfl, hc'⟩ := hlo
        have := (bnd_rel (P := P) (w := w) h3 hc' hh (Nat.le_refl _) .sliceB).1
        simp [Instr.sliceBounds, this, q]
  · obtain ⟨c, rfl, hc⟩ := hmx
    have q1 := fun code => (bnd_rel (P := P) (w := w) hv hc C hb code).1
    rcases h2 with ⟨rfl, rfl⟩ | ⟨v', rfl, b', hb', hv'⟩
    · simp at h0
    · obtain ⟨c', rfl, hc'⟩ := hhi
      have q2 := fun code => (bnd_rel (P := P) (w := w) hv' hc' m hb' code).1
      cases lo with
      | none =>
        simp only [OptR] at hlo; subst hlo
        simp only [bndO, Option.some.injEq] at h3; subst h3
        simp [Instr.sliceBounds, q1, q2]
      | some x =>
        obtain ⟨c3, rfl, hc3⟩ := hlo
        have := (bnd_rel (P := P) (w := w) h3 hc3 hh (Nat.le_refl _) .slice3C).1
        simp [Instr.sliceBounds, this, q1, q2]

theorem bndO_case {x : Option AV} {b d i : Nat} (h : bndO x b d = some i) : x = none ∧ i = d ∨ ∃ v, x = some v ∧ bnd v b = some i := by
  cases x with
  | none => simp only [bndO, Option.some.injEq] at h; exact .inl ⟨rfl, h.symm⟩
  | some v => exact .inr ⟨v, rfl, h⟩

theorem bnd_le {v : AV} {b i : Nat} (h : bnd v b = some i) : i ≤ b := by
  unfold bnd at h
  split at h
  · split at h
    · rename_i hb; cases h; exact Nat.le_of_ble_eq_true hb
    · cases h
  · cases h

theorem sliceStr_rel {s : ByteArray} {lo hi : Option AV} {clo chi : Option Value} {v : AV} (h : sliceStr (bytesOf s) lo hi = some v) (hlo : OptR φ lo clo) (hhi : OptR φ hi chi) :
    ∃ cv, ((do let (l, h, _) ← Instr.sliceBounds false s.size s.size clo chi none; pure (.string (s.extract l h))) : Sem Value).run P w = .ok cv w ∧ VR φ v cv := by
  have ls : (bytesOf s).length = s.size := by simp [bytesOf]
  unfold sliceStr at h
  rw [ls] at h
  split at h
  · cases h
  · rename_i hh h1
    split at h
    · cases h
    · rename_i l h2
      cases h
      have := sliceBounds_rel (P := P) (w := w) (φ := φ) (isS := false) (len := s.size) (C := s.size) (m := s.size) (mx := none) (cmx := none) hlo hhi rfl (by simp) (.inl ⟨rfl, rfl⟩)
        (by rcases bndO_case h1 with ⟨a, b⟩ | ⟨v, a, b⟩
            · exact .inl ⟨a, b⟩
            · exact .inr ⟨v, a, _, Nat.le_refl _, b⟩) h2
      refine ⟨.string (s.extract l hh), ?_, VR_str.2 ⟨_, rfl, ?_⟩⟩
      · simp only [Sem.run_bind, this, Result.andThen_ok, Sem.run_pure]
      · simp [bytesOf, List.map_drop, List.map_take, List.take_drop]
        have hl : l ≤ hh := by
          rcases bndO_case h2 with ⟨_, b⟩ | ⟨v, _, b⟩
          · omega
          · exact bnd_le b
        rw [show l + (hh - l) = hh by omega]


/-- A slice's, or an array's, cut, of an exact capacity. -/
theorem sliceEx_rel {isS : Bool} {b o len c size : Nat} {lo hi mx : Option AV} {clo chi cmx : Option Value} {v : AV} {L : Loc} (hL : φ b = some L)
    (h : sliceEx b o len c size lo hi mx = some v) (hlo : OptR φ lo clo) (hhi : OptR φ hi chi) (hmx : OptR φ mx cmx) :
    ∃ l hh m, (Instr.sliceBounds isS len c clo chi cmx).run P w = .ok (l, hh, m) w ∧
      VR φ v (.slice (some (if m = l then ⟨L.B, L.base + o, none⟩ else (⟨L.B, L.base + o, none⟩ : Addr).add (l * size))) (hh - l) (m - l)) := by
  unfold sliceEx at h
  split at h
  · cases h
  · rename_i h0
    split at h
    · cases h
    · rename_i m h1
      split at h
      · cases h
      · rename_i hh h2
        split at h
        · cases h
        · rename_i l h3
          have := sliceBounds_rel (P := P) (w := w) (φ := φ) (isS := isS) (len := len) (C := c) (m := m) hlo hhi hmx h0
            (by rcases bndO_case h1 with ⟨a, e⟩ | ⟨v, a, e⟩
                · exact .inl ⟨a, e.symm⟩
                · exact .inr ⟨v, a, _, Nat.le_refl _, e⟩)
            (by rcases bndO_case h2 with ⟨a, e⟩ | ⟨v, a, e⟩
                · exact .inl ⟨a, e⟩
                · exact .inr ⟨v, a, _, Nat.le_refl _, e⟩) h3
          refine ⟨l, hh, m, this, ?_⟩
          split at h
          · rename_i e
            have e := Nat.eq_of_beq_eq_true e
            cases h
            rw [VR_sliceEx, if_pos e]
            exact ⟨L, hL, rfl⟩
          · rename_i e
            have e := Nat.ne_of_beq_eq_false e
            cases h
            rw [VR_sliceEx, if_neg e, add_none]
            exact ⟨L, hL, by rw [Nat.add_assoc]⟩

theorem sliceOp_rel {isS : Bool} {b o len i size : Nat} {lo hi mx : Option AV} {clo chi cmx : Option Value} {v : AV} {L : Loc} (hL : φ b = some L)
    (h : sliceOp b o len i size lo hi mx = some v) (hlo : OptR φ lo clo) (hhi : OptR φ hi chi) (hmx : OptR φ mx cmx) (hlen : i + len ≤ L.K) :
    ∃ l hh m, (Instr.sliceBounds isS len (L.K - i) clo chi cmx).run P w = .ok (l, hh, m) w ∧
      VR φ v (.slice (some (if m = l then ⟨L.B, L.base + o, none⟩ else (⟨L.B, L.base + o, none⟩ : Addr).add (l * size))) (hh - l) (m - l)) := by
  unfold sliceOp at h
  split at h
  · rename_i mxv
    split at h
    · rename_i m hiv h1
      split at h
      · cases h
      · rename_i hh h2
        split at h
        · cases h
        · rename_i l h3
          have := sliceBounds_rel (P := P) (w := w) (φ := φ) (isS := isS) (len := len) (C := L.K - i) (m := m) hlo hhi hmx rfl
            (.inr ⟨mxv, rfl, len, by omega, h1⟩) (.inr ⟨hiv, rfl, m, Nat.le_refl _, h2⟩) h3
          refine ⟨l, hh, m, this, ?_⟩
          split at h
          · rename_i e
            have e := Nat.eq_of_beq_eq_true e
            cases h
            rw [VR_sliceEx, if_pos e]
            exact ⟨L, hL, rfl⟩
          · rename_i e
            have e := Nat.ne_of_beq_eq_false e
            cases h
            rw [VR_sliceEx, if_neg e, add_none]
            exact ⟨L, hL, by rw [Nat.add_assoc]⟩
    · cases h
  · split at h
    · cases h
    · rename_i hh h2
      split at h
      · cases h
      · rename_i l h3
        have hle : hh ≤ len := by
          rcases bndO_case h2 with ⟨_, e⟩ | ⟨v, _, e⟩
          · omega
          · exact bnd_le e
        have hl : l ≤ hh := by
          rcases bndO_case h3 with ⟨_, e⟩ | ⟨v, _, e⟩
          · omega
          · exact bnd_le e
        have := sliceBounds_rel (P := P) (w := w) (φ := φ) (isS := isS) (len := len) (C := L.K - i) (m := L.K - i) hlo hhi hmx rfl
          (.inl ⟨rfl, rfl⟩) (by rcases bndO_case h2 with ⟨a, e⟩ | ⟨v, a, e⟩
                                · exact .inl ⟨a, e⟩
                                · exact .inr ⟨v, a, len, by omega, e⟩) h3
        refine ⟨l, hh, L.K - i, this, ?_⟩
        split at h
        · rename_i e
          have e := Nat.eq_of_beq_eq_true e
          cases h
          subst e
          rw [VR_sliceOp]
          refine ⟨L, hL, ?_, by omega⟩
          split <;> simp
        · rename_i e
          have e := Nat.ne_of_beq_eq_false e
          split at h
          · rename_i e2
            have e2 := Nat.le_of_ble_eq_true e2
            cases h
            rw [VR_sliceOp, if_neg (by omega), add_none]
            exact ⟨L, hL, by rw [Nat.add_assoc, Nat.sub_sub], by omega⟩
          · rename_i e2
            have e2 : ¬ (l + 1 ≤ len) := fun x => by rw [Nat.ble_eq_true_of_le x] at e2; cases e2
            cases h
            rw [VR_slice0, show hh - l = 0 by omega]
            exact ⟨_, _, rfl⟩

theorem sliceA_rel {t : TypeId} {x : AV} {lo hi mx : Option AV} {cx : Value} {clo chi cmx : Option Value} {v : AV} (hx : VR φ x cx)
    (h : sliceA P t x lo hi mx = some v) (hlo : OptR φ lo clo) (hhi : OptR φ hi chi) (hmx : OptR φ mx cmx) :
    Pu P φ w (Instr.sliceAt t cx clo chi cmx) v := by
  unfold sliceA at h
  split at h
  · rename_i hu
    split at h
    · simp only [OptR] at hmx; subst hmx
      simp only [VR_str] at hx; obtain ⟨s, rfl, rfl⟩ := hx
      obtain ⟨cv, h1, h2⟩ := sliceStr_rel (P := P) (w := w) h hlo hhi
      refine ⟨cv, ?_, h2⟩
      simp only [Instr.sliceAt, Sem.run_bind, run_underlying hu, Result.andThen_ok, Instr.slice, Option.isSome_none, Bool.false_eq_true, if_false]
      simpa only [Sem.run_bind] using h1
    · cases h
  · rename_i e hu
    split at h
    · rename_i ht hv
      cases h
      simp only [VR_nilslice] at hx; subst hx
      unfold sliceEx at hv
      split at hv
      · cases hv
      · rename_i h0
        split at hv
        · cases hv
        · rename_i m h1
          split at hv
          · cases hv
          · rename_i hh h2
            split at hv
            · cases hv
            · rename_i l h3
              have m0 : m = 0 := by
                rcases bndO_case h1 with ⟨_, e⟩ | ⟨v, _, e⟩
                · exact e
                · have := bnd_le e; omega
              subst m0
              have h0' : hh = 0 := by
                rcases bndO_case h2 with ⟨_, e⟩ | ⟨v, _, e⟩
                · exact e
                · have := bnd_le e; omega
              subst h0'
              have l0 : l = 0 := by
                rcases bndO_case h3 with ⟨_, e⟩ | ⟨v, _, e⟩
                · exact e
                · have := bnd_le e; omega
              subst l0
              have := sliceBounds_rel (P := P) (w := w) (φ := φ) (isS := true) (len := 0) (C := 0) (m := 0) hlo hhi hmx h0
                (by rcases bndO_case h1 with ⟨a, e⟩ | ⟨v, a, e⟩
                    · exact .inl ⟨a, rfl⟩
                    · exact .inr ⟨v, a, _, Nat.le_refl _, e⟩)
                (by rcases bndO_case h2 with ⟨a, e⟩ | ⟨v, a, e⟩
                    · exact .inl ⟨a, rfl⟩
                    · exact .inr ⟨v, a, _, Nat.le_refl _, e⟩) h3
              refine ⟨.slice none 0 0, ?_, VR_nilslice.2 rfl⟩
              simp only [Instr.sliceAt, Sem.run_bind, run_underlying hu, Result.andThen_ok, Instr.slice, this, sizeOf_run e ht, Sem.run_pure, if_true]
    · cases h
  · rename_i e hu
    split at h
    · rename_i hh l ht h2 h3
      cases h
      simp only [OptR] at hmx; subst hmx
      simp only [VR_slice0] at hx; obtain ⟨a, c, rfl⟩ := hx
      have h0' : hh = 0 := by
        rcases bndO_case h2 with ⟨_, e⟩ | ⟨v, _, e⟩
        · exact e
        · have := bnd_le e; omega
      subst h0'
      have l0 : l = 0 := by
        rcases bndO_case h3 with ⟨_, e⟩ | ⟨v, _, e⟩
        · exact e
        · have := bnd_le e; omega
      subst l0
      have := sliceBounds_rel (P := P) (w := w) (φ := φ) (isS := true) (len := 0) (C := c) (m := c) (mx := none) (cmx := none) hlo hhi rfl (by simp)
        (.inl ⟨rfl, rfl⟩)
        (by rcases bndO_case h2 with ⟨a, e⟩ | ⟨v, a, e⟩
            · exact .inl ⟨a, rfl⟩
            · exact .inr ⟨v, a, 0, Nat.zero_le _, e⟩) h3
      refine ⟨.slice (some a) 0 c, ?_, VR_slice0.2 ⟨_, _, rfl⟩⟩
      simp only [Instr.sliceAt, Sem.run_bind, run_underlying hu, Result.andThen_ok, Instr.slice, this, sizeOf_run e ht, Sem.run_pure]
      simp [Addr.add]
    · cases h
  · rename_i e b o len c hu
    split at h
    · rename_i ht
      simp only [VR_sliceEx] at hx; obtain ⟨L, hL, rfl⟩ := hx
      obtain ⟨l, hh, m, h1, h2⟩ := sliceEx_rel (P := P) (w := w) (isS := true) hL h hlo hhi hmx
      refine ⟨_, ?_, h2⟩
      simp only [Instr.sliceAt, Sem.run_bind, run_underlying hu, Result.andThen_ok, Instr.slice, h1, sizeOf_run e ht, Sem.run_pure, Option.map_some]
      congr 2
      split <;> rfl
    · cases h
  · rename_i e b o len i hu
    split at h
    · rename_i ht
      simp only [VR_sliceOp] at hx; obtain ⟨L, hL, rfl, hK⟩ := hx
      obtain ⟨l, hh, m, h1, h2⟩ := sliceOp_rel (P := P) (w := w) (isS := true) hL h hlo hhi hmx hK
      refine ⟨_, ?_, h2⟩
      simp only [Instr.sliceAt, Sem.run_bind, run_underlying hu, Result.andThen_ok, Instr.slice, h1, sizeOf_run e ht, Sem.run_pure, Option.map_some]
      congr 2
      split <;> rfl
    · cases h
  · rename_i n e b o hu
    split at h
    · rename_i ht
      simp only [VR_ptr] at hx; obtain ⟨L, hL, rfl⟩ := hx
      obtain ⟨l, hh, m, h1, h2⟩ := sliceEx_rel (P := P) (w := w) (isS := false) hL h hlo hhi hmx
      refine ⟨_, ?_, h2⟩
      simp only [Instr.sliceAt, Sem.run_bind, run_underlying hu, Result.andThen_ok, Instr.sureAddr, h1, sizeOf_run e ht, Sem.run_pure]
    · cases h
  · rename_i a b o hu
    split at h
    · rename_i n e ha
      split at h
      · rename_i ht
        simp only [VR_ptr] at hx; obtain ⟨L, hL, rfl⟩ := hx
        obtain ⟨l, hh, m, h1, h2⟩ := sliceEx_rel (P := P) (w := w) (isS := false) hL h hlo hhi hmx
        refine ⟨_, ?_, h2⟩
        simp only [Instr.sliceAt, Sem.run_bind, run_underlying hu, Result.andThen_ok, Instr.slice, asAddr, run_underlying ha, h1, sizeOf_run e ht, Sem.run_pure]
      · cases h
    · cases h
  · cases h

end
end Go.AX

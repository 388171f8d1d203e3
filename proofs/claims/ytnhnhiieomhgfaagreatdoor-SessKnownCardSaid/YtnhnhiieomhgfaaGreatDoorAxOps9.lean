/-
  AX: one operation of the evaluator's is one of the machine's.
-/
import Derived.Test.YtnhnhiieomhgfaaGreatDoorAxOps8
namespace Go.AX
open Go.RowKit

def ev (tmps : Array Value) : Operand → Value
  | .tmp t => tmps.getD t undef
  | .const v => v
  | .global g => .pointer (some ⟨g, 0, none⟩)
  | .func f => .func (.func f) #[] #[]

theorem Frame.eval_ev (fr : Frame) : fr.eval = ev fr.tmps := by
  funext x; cases x <;> rfl

section
variable {P : Program} {N : NN} {φ : Phi} {h h' : H} {w : World} {nt : Nat} {tm : T AV} {tmps : Array Value}

theorem evalA_rel (tr : TR φ nt tm tmps) {x : Operand} {v : AV} (h : evalA tm x = some v) : VR φ v (ev tmps x) := by
  cases x with
  | tmp t =>
    have := tr.2 t
    simp only [evalA] at h
    split at h
    · rename_i u hu; cases h; rw [hu] at this; exact this
    · rename_i hu; cases h; rw [hu] at this; exact this
  | const v => exact ofVal_rel h
  | global g => cases h
  | func f => cases h; rw [VR_func]; exact ⟨#[], #[], rfl, trivial, trivial⟩

theorem evalG_rel (tr : TR φ nt tm tmps) (hr : HR N φ h w) {x : Operand} {v : AV} (e : evalG tm h x = some v) : VR φ v (ev tmps x) := by
  unfold evalG at e
  split at e
  · rename_i g
    split at e
    · rename_i hg
      cases e
      rw [VR_ptr]
      exact ⟨_, hr.glob g (Nat.le_of_ble_eq_true hg), rfl⟩
    · cases e
  · exact evalA_rel tr e

theorem evalsA_rel (tr : TR φ nt tm tmps) : ∀ {l : List Operand} {vs : List AV}, evalsA tm l = some vs → All2 (VR φ) vs (l.map (ev tmps))
  | [], vs, h => by simp only [evalsA, Option.some.injEq] at h; subst h; trivial
  | x :: l, vs, h => by
    simp only [evalsA] at h
    split at h
    · cases h
    · rename_i v hv
      split at h
      · cases h
      · rename_i vs' hvs; cases h; exact ⟨evalA_rel tr hv, evalsA_rel tr hvs⟩

theorem evalP_rel (tr : TR φ nt tm tmps) : ∀ {l : List (Nat × Operand)} {vs : List (Nat × AV)}, evalP tm l = some vs →
    All2 (fun (a : Nat × AV) (b : Nat × Value) => a.1 = b.1 ∧ VR φ a.2 b.2) vs (l.map fun p => (p.1, ev tmps p.2))
  | [], vs, h => by simp only [evalP, Option.some.injEq] at h; subst h; trivial
  | (i, x) :: l, vs, h => by
    simp only [evalP] at h
    split at h
    · cases h
    · rename_i v hv
      split at h
      · cases h
      · rename_i vs' hvs; cases h; exact ⟨⟨rfl, evalA_rel tr hv⟩, evalP_rel tr hvs⟩

theorem evalO_rel (tr : TR φ nt tm tmps) {x : Option Operand} {v : Option AV} (h : evalO tm x = some v) : OptR φ v (x.map (ev tmps)) := by
  cases x with
  | none => simp only [evalO, Option.some.injEq] at h; subst h; rfl
  | some x =>
    simp only [evalO] at h
    split at h
    · cases h
    · rename_i u hu; cases h; exact ⟨_, rfl, evalA_rel tr hu⟩

/-- What an operation comes to, on both sides. -/
def RR (P : Program) (N : NN) (φ : Phi) (w : World) (m : Result Next) : R → Prop
  | .val v h' => ∃ φ' cv w', m = .ok (.value cv) w' ∧ VR φ' v cv ∧ φ.le φ' ∧ HR N φ' h' w' ∧ Below N w w'
  | .skip h' => ∃ φ' w', m = .ok .skip w' ∧ φ.le φ' ∧ HR N φ' h' w' ∧ Below N w w'
  | .enter f args h' => ∃ cargs, m = .ok (.enter f cargs) w ∧ All2 (VR φ) args cargs.toList ∧ HR N φ h' w
  | .ext f args h' => ∃ cargs, m = (callFunc f cargs).run P w ∧ All2 (VR φ) args cargs.toList ∧ HR N φ h' w
  | .round l args h' => ∃ L cargs, φ l = some L ∧ m = (Instr.yield L.B cargs).run P w ∧ All2 (VR φ) args cargs.toList ∧ HR N φ h' w
  | .defer d h' => ∃ cd, m = .ok (.defer cd) w ∧ DR φ d cd ∧ HR N φ h' w
  | .recover h' => m = .ok .recover w ∧ HR N φ h' w
  | .panic v h' => ∃ cv, m = .halt (.panic cv) w ∧ VR φ v cv ∧ HR N φ h' w
  | .fail => True

theorem VOk.rr {m : Sem Value} {v : AV} (x : VOk P N φ w m v h') : RR P N φ w ((do pure (Next.value (← m)) : Sem Next).run P w) (.val v h') := by
  obtain ⟨φ', cv, w', h1, h2⟩ := x
  exact ⟨φ', cv, w', by simp only [Sem.run_bind, h1, Result.andThen_ok, Sem.run_pure], h2⟩

theorem UOk.rr {m : Sem Unit} (x : UOk P N φ w m h') : RR P N φ w ((do m; pure Next.skip : Sem Next).run P w) (.skip h') := by
  obtain ⟨φ', w', h1, h2⟩ := x
  exact ⟨φ', w', by simp only [Sem.run_bind, h1, Result.andThen_ok, Sem.run_pure], h2⟩

theorem optV_rr {m : Sem Value} {o : Option AV} (hr : HR N φ h w) (x : ∀ v, o = some v → Pu P φ w m v) : RR P N φ w ((do pure (Next.value (← m)) : Sem Next).run P w) (optV h o) := by
  cases o with
  | none => trivial
  | some v => exact ((x v rfl).vok hr).rr

theorem optH_rr {m : Sem Unit} {o : Option H} (x : ∀ h', o = some h' → UOk P N φ w m h') : RR P N φ w ((do m; pure Next.skip : Sem Next).run P w) (optH o) := by
  cases o with
  | none => trivial
  | some h' => exact (x h' rfl).rr

theorem vals_rr {m : Sem Value} {r : R} (hs : (∃ v h', r = .val v h') ∨ r = .fail) (x : ∀ v h', r = .val v h' → VOk P N φ w m v h') : RR P N φ w ((do pure (Next.value (← m)) : Sem Next).run P w) r := by
  rcases hs with ⟨v, h', rfl⟩ | rfl
  · exact (x v h' rfl).rr
  · trivial

theorem callFunc_run {f : FuncId} (h : enterOk P f = true) (args : Array Value) : (callFunc f args).run P w = .ok (.enter f args) w := by
  unfold enterOk at h
  split at h
  · rename_i fn hf
    simp only [Bool.and_eq_true, Bool.not_eq_true'] at h
    have hb : fn.body.isNone = false := by cases hx : fn.body <;> simp_all
    simp only [callFunc, Sem.run_bind, run_program, Result.andThen_ok, hf, h.2, Bool.false_eq_true, if_false, hb, Sem.run_pure]
  · cases h

theorem callV_rel (hr : HR N φ h w) {f : AV} {cf : Value} {args : List AV} {cargs : Array Value} (hf : VR φ f cf) (ha : All2 (VR φ) args cargs.toList) :
    RR P N φ w ((do let d ← Deferred.ofValue cf cargs; invoke d.target d.args).run P w) (callV P f args h) := by
  unfold callV
  split
  · rename_i g first cap
    simp only [VR_func] at hf; obtain ⟨a, b, rfl, h1, h2⟩ := hf
    split
    · rename_i he
      refine ⟨a ++ cargs ++ b, ?_, by simp only [Array.toList_append]; exact (h1.append ha).append h2, hr⟩
      simp only [Deferred.ofValue, Sem.run_bind, Sem.run_pure, Result.andThen_ok, invoke, callFunc_run he]
    · refine ⟨a ++ cargs ++ b, ?_, by simp only [Array.toList_append]; exact (h1.append ha).append h2, hr⟩
      simp only [Deferred.ofValue, Sem.run_bind, Sem.run_pure, Result.andThen_ok, invoke]
  · simp only [VR_yield] at hf; obtain ⟨L, hL, rfl⟩ := hf
    refine ⟨L, cargs, hL, ?_, ha, hr⟩
    simp only [Deferred.ofValue, Sem.run_bind, Sem.run_pure, Result.andThen_ok, invoke, Array.empty_append]
  · trivial

theorem shape_appendN {e : TypeId} {size n : Nat} {s : AV} {new : List AV} {h : H} : (∃ v h', appendN e size s n new h = .val v h') ∨ appendN e size s n new h = .fail := by
  unfold appendN
  repeat' (first | (exact .inr rfl) | (exact .inl ⟨_, _, rfl⟩) | split | simp only [])

theorem shape_append {e : TypeId} {s x : AV} {h : H} : (∃ v h', appendA P e s x h = .val v h') ∨ appendA P e s x h = .fail := by
  unfold appendA
  repeat' (first | (exact .inr rfl) | (exact .inl ⟨_, _, rfl⟩) | exact shape_appendN | split | simp only [])

theorem shape_appendZ {e : TypeId} {s x : AV} {h : H} : (∃ v h', appendZ P e s x h = .val v h') ∨ appendZ P e s x h = .fail := by
  unfold appendZ
  repeat' (first | (exact .inr rfl) | (exact .inl ⟨_, _, rfl⟩) | exact shape_appendN | split | simp only [])

theorem shape_unsafeStr {t : TypeId} {p : AV} {n : Nat} {h : H} : (∃ v h', unsafeStrA P t p n h = .val v h') ∨ unsafeStrA P t p n h = .fail := by
  unfold unsafeStrA
  repeat' (first | (exact .inr rfl) | (exact .inl ⟨_, _, rfl⟩) | split | simp only [])

theorem shape_copy {e : TypeId} {s x : AV} {h : H} : (∃ v h', copyA P e s x h = .val v h') ∨ copyA P e s x h = .fail := by
  unfold copyA
  repeat' (first | (exact .inr rfl) | (exact .inl ⟨_, _, rfl⟩) | split | simp only [])

theorem shape_buildSlice {t : TypeId} {len : Nat} {l : List (Nat × AV)} {h : H} : (∃ v h', buildSliceA P t len l h = .val v h') ∨ buildSliceA P t len l h = .fail := by
  unfold buildSliceA
  repeat' (first | (exact .inr rfl) | (exact .inl ⟨_, _, rfl⟩) | split | simp only [])

theorem shape_makeSlice {t : TypeId} {a b : AV} {h : H} : (∃ v h', makeSliceA P t a b h = .val v h') ∨ makeSliceA P t a b h = .fail := by
  unfold makeSliceA
  repeat' (first | (exact .inr rfl) | (exact .inl ⟨_, _, rfl⟩) | split | simp only [])

theorem shape_toUnsafe {t : TypeId} {x : AV} {h : H} : (∃ v h', toUnsafeA P t x h = .val v h') ∨ toUnsafeA P t x h = .fail := by
  unfold toUnsafeA
  repeat' (first | (exact .inr rfl) | (exact .inl ⟨_, _, rfl⟩) | split | simp only [])

theorem shape_fromUnsafe {t : TypeId} {x : AV} {h : H} : (∃ v h', fromUnsafeA P t x h = .val v h') ∨ fromUnsafeA P t x h = .fail := by
  unfold fromUnsafeA
  repeat' (first | (exact .inr rfl) | (exact .inl ⟨_, _, rfl⟩) | split | simp only [])

theorem shape_convert {a b : TypeId} {x : AV} {h : H} : (∃ v h', convertA P a b x h = .val v h') ∨ convertA P a b x h = .fail := by
  unfold convertA
  repeat' (first | (exact .inr rfl) | (exact .inl ⟨_, _, rfl⟩) | (simp only [forceInt_eq]; exact .inl ⟨_, _, rfl⟩) | split | simp only [])

theorem shape_mapEntry {t : TypeId} {a b : AV} {h : H} : (∃ v h', mapEntryA P t a b h = .val v h') ∨ mapEntryA P t a b h = .fail := by
  unfold mapEntryA
  repeat' (first | (exact .inr rfl) | (exact .inl ⟨_, _, rfl⟩) | split | simp only [])

theorem shape_range {t : TypeId} {a : AV} {h : H} : (∃ v h', rangeA P t a h = .val v h') ∨ rangeA P t a h = .fail := by
  unfold rangeA
  repeat' (first | (exact .inr rfl) | (exact .inl ⟨_, _, rfl⟩) | split | simp only [])

theorem shape_next {a : AV} {b : Bool} {h : H} : (∃ v h', nextA a b h = .val v h') ∨ nextA a b h = .fail := by
  unfold nextA
  repeat' (first | (exact .inr rfl) | (exact .inl ⟨_, _, rfl⟩) | split | simp only [])

end
end Go.AX

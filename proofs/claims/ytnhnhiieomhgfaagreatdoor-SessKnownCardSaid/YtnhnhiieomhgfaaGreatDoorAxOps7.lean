/-
  AX: operations: maps, and walks over them.
-/
import Derived.Test.YtnhnhiieomhgfaaGreatDoorAxOps6
namespace Go.AX
open Go.RowKit

section
variable {P : Program} {N : NN} {φ : Phi} {h h' : H} {w : World}

theorem run_checkFields {D : Nat} {b : Bool} {cs : Array Value} (g : Field → Value) : ∀ (fs : List Field),
    (∀ f, f ∈ fs → f.name ≠ "_" → (part f.type cs f.offset).run P w = .ok (g f) w ∧ (Instr.checkKey b D f.type (g f)).run P w = .ok () w) →
    (forIn fs PUnit.unit (fun f _ => do
      if f.name ≠ "_" then Instr.checkKey b D f.type (← part f.type cs f.offset)
      pure (ForInStep.yield PUnit.unit)) : Sem PUnit).run P w = .ok PUnit.unit w
  | [], _ => rfl
  | f :: fs, h => by
    have ih := run_checkFields g fs (fun x hx => h x (by simp [hx]))
    by_cases hn : f.name = "_"
    · simp only [List.forIn_cons, hn, ne_eq, not_true_eq_false, if_false, Sem.run_bind, Sem.run_pure, Result.andThen_ok]
      exact ih
    · obtain ⟨h1, h2⟩ := h f (by simp) hn
      simp only [List.forIn_cons, ne_eq, hn, not_false_eq_true, if_true, Sem.run_bind, h1, h2, Result.andThen_ok, Sem.run_pure]
      exact ih

theorem keyFields_rel {kv : TypeId → AV → Bool} {D : Nat} {b : Bool} {cs : List AV} {ccs : Array Value} (hcs : All2 (VR φ) cs ccs.toList)
    (ih : ∀ (t : TypeId) (k : AV) (ck : Value), kv t k = true → VR φ k ck → (Instr.checkKey b D t ck).run P w = .ok () w) : ∀ (fs : List Field), keyFields P kv cs fs = true →
    (forIn fs PUnit.unit (fun f _ => do
      if f.name ≠ "_" then Instr.checkKey b D f.type (← part f.type ccs f.offset)
      pure (ForInStep.yield PUnit.unit)) : Sem PUnit).run P w = .ok PUnit.unit w
  | [], _ => rfl
  | f :: fs, h => by
    simp only [keyFields] at h
    split at h
    · rename_i v hn hok hp
      split at h
      · rename_i hk
        have ihf := keyFields_rel hcs ih fs h
        obtain ⟨cv, h1, h2⟩ := partA_rel (w := w) hok hcs hp
        have hn' : f.name ≠ "_" := by simpa using hn
        simp only [List.forIn_cons, ne_eq, hn', not_false_eq_true, if_true, Sem.run_bind, h1, ih _ _ _ hk h2, Result.andThen_ok, Sem.run_pure]
        exact ihf
      · cases h
    · cases h

theorem keyV_rel : ∀ (d D : Nat), d ≤ D → ∀ (b : Bool) (t : TypeId) (k : AV) (ck : Value), keyV P d t k = true → VR φ k ck → (Instr.checkKey b D t ck).run P w = .ok () w
  | 0, _, _, _, _, _, _, h, _ => by cases h
  | d + 1, 0, hD, _, _, _, _, _, _ => by omega
  | d + 1, D + 1, hD, b, t, k, ck, h, hk => by
    have ih := keyV_rel d D (by omega) b
    simp only [keyV] at h
    split at h
    · rename_i hu; simp only [VR_int] at hk; subst hk; simp only [Instr.checkKey, Sem.run_bind, run_underlying hu, Result.andThen_ok, Sem.run_pure]
    · rename_i hu; simp only [VR_str] at hk; obtain ⟨s, rfl, _⟩ := hk; simp only [Instr.checkKey, Sem.run_bind, run_underlying hu, Result.andThen_ok, Sem.run_pure]
    · rename_i hu; simp only [VR_bool] at hk; subst hk; simp only [Instr.checkKey, Sem.run_bind, run_underlying hu, Result.andThen_ok, Sem.run_pure]
    · rename_i fs cs hu
      simp only [VR_agg] at hk; obtain ⟨a, rfl, ha⟩ := hk
      have := keyFields_rel ha (fun t k ck => ih t k ck) fs.toList h
      simp only [Instr.checkKey, Sem.run_bind, run_underlying hu, Result.andThen_ok]
      rw [← Array.forIn_toList, this]; rfl
    · cases h

def FindR (φ : Phi) : Option (Nat × AV) → Option (Nat × Value) → Prop
  | none, r => r = none
  | some (i, v), r => ∃ cv, r = some (i, cv) ∧ VR φ v cv

theorem findAsking_rel {t : TypeId} {k : AV} {ck : Value} (hk : VR φ k ck) : ∀ (es : List (AV × AV × Nat)) (ces : List MapEntry) (i : Nat) (r : Option (Nat × AV)),
    findA P t k es i = some r → All2 (EntR φ) es ces → ∃ cr, (Instr.findAsking t ck ces i).run P w = .ok cr w ∧ FindR φ r cr
  | [], ces, i, r, h, he => by
    rw [All2.nil_left] at he; subst he
    simp only [findA, Option.some.injEq] at h; subst h
    exact ⟨none, rfl, rfl⟩
  | e :: es, ces, i, r, h, he => by
    obtain ⟨ce, cr, rfl, ⟨h1, h2, _⟩, hr⟩ := All2.cons_left.1 he
    simp only [findA] at h
    split at h
    · rename_i hq
      cases h
      have : (Op.equal t ck ce.key).run P w = .ok true w := eqA_rel 4 10000 (by omega) t k e.1 ck ce.key true hq hk h1
      refine ⟨some (i, ce.val), ?_, ce.val, rfl, h2⟩
      simp only [Instr.findAsking, Sem.run_bind, this, Result.andThen_ok, if_true, Sem.run_pure]
    · rename_i hq
      have : (Op.equal t ck ce.key).run P w = .ok false w := eqA_rel 4 10000 (by omega) t k e.1 ck ce.key false hq hk h1
      obtain ⟨r', h3, h4⟩ := findAsking_rel hk es cr (i + 1) r h hr
      refine ⟨r', ?_, h4⟩
      simp only [Instr.findAsking, Sem.run_bind, this, Result.andThen_ok, Bool.false_eq_true, if_false, h3]
    · cases h

theorem sameNow_rel {t : TypeId} {d : TypeDesc} (hu : P.underlying t = some d) {k e : AV} {ck ce : Value} {q r : Bool} (hk : VR φ k ck) (he : VR φ e ce) (ha : eqA P 4 t k e = some q)
    (hs : Instr.sameNow d ck ce = some r) : r = q := by
  unfold Instr.sameNow at hs
  split at hs
  · have := VR_int_inv hk; subst this
    have := VR_int_inv he; subst this
    split at hs
    · rename_i e; subst e
      simp only [Option.some.injEq] at hs; subst hs
      simp only [eqA, hu] at ha
      split at ha
      · simp only [Option.some.injEq] at ha; exact ha
      · cases ha
    · cases hs
  · have := VR_string_inv hk; subst this
    have := VR_string_inv he; subst this
    simp only [Option.some.injEq] at hs; subst hs
    simp only [eqA, hu, Option.some.injEq] at ha; subst ha
    rw [listEqB_eq, bytesOf_eq, bytesOf_eq, map_toNat_beq, beq_toListBytes]
  · simp only [Option.some.injEq] at hs; subst hs
    have hk' : ∃ b, k = .bool b := by
      cases k with
      | slice b o len c => obtain ⟨a, c, e⟩ := VR_slice_some hk; cases e
      | bool b => exact ⟨b, rfl⟩
      | _ => simp at hk
    have he' : ∃ b, e = .bool b := by
      cases e with
      | slice b o len c => obtain ⟨a, c, e⟩ := VR_slice_some he; cases e
      | bool b => exact ⟨b, rfl⟩
      | _ => simp at he
    obtain ⟨x, rfl⟩ := hk'
    obtain ⟨y, rfl⟩ := he'
    simp only [VR_bool, Value.bool.injEq] at hk he; subst hk; subst he
    simp only [eqA, hu, Option.some.injEq] at ha; exact ha
  · cases hs

theorem findNow_rel {t : TypeId} {d : TypeDesc} (hu : P.underlying t = some d) {k : AV} {ck : Value} (hk : VR φ k ck) : ∀ (es : List (AV × AV × Nat)) (ces : List MapEntry) (i : Nat) (r : Option (Nat × AV)) (cr : Option (Nat × Value)),
    findA P t k es i = some r → All2 (EntR φ) es ces → Instr.findNow d ck ces i = some cr → FindR φ r cr
  | [], ces, i, r, cr, h, he, hn => by
    rw [All2.nil_left] at he; subst he
    simp only [findA, Option.some.injEq] at h; subst h
    simp only [Instr.findNow, Option.some.injEq] at hn; subst hn
    rfl
  | e :: es, ces, i, r, cr, h, he, hn => by
    obtain ⟨ce, cr', rfl, ⟨h1, h2, _⟩, hr⟩ := All2.cons_left.1 he
    simp only [findA] at h
    simp only [Instr.findNow] at hn
    split at h
    · rename_i hq
      cases h
      split at hn
      · simp only [Option.some.injEq] at hn; subst hn; exact ⟨_, rfl, h2⟩
      · rename_i hs
        have := sameNow_rel hu hk h1 hq hs; cases this
      · cases hn
    · rename_i hq
      split at hn
      · rename_i hs
        have := sameNow_rel hu hk h1 hq hs; cases this
      · exact findNow_rel hu hk es cr' (i + 1) r cr h hr hn
      · cases hn
    · cases h

theorem findA_ok {t : TypeId} {k : AV} {es : List (AV × AV × Nat)} {i : Nat} {r : Option (Nat × AV)} (_ : findA P t k es i = some r) : True := trivial

theorem findKey_rel {t : TypeId} {k : AV} {ck : Value} (ht : okT P t = true) (hk : VR φ k ck) {es : List (AV × AV × Nat)} {ces : List MapEntry} {r : Option (Nat × AV)}
    (h : findA P t k es 0 = some r) (he : All2 (EntR φ) es ces) : ∃ cr, (Instr.findKey t ck ces).run P w = .ok cr w ∧ FindR φ r cr := by
  unfold okT at ht
  cases hu : P.underlying t with
  | none => rw [hu] at ht; cases ht
  | some d =>
    cases hn : Instr.findNow d ck ces 0 with
    | some cr => exact ⟨cr, by simp only [Instr.findKey, Sem.run_bind, run_underlying hu, Result.andThen_ok, hn, Sem.run_pure], findNow_rel hu hk es ces 0 r cr h he hn⟩
    | none =>
      obtain ⟨cr, h1, h2⟩ := findAsking_rel (w := w) hk es ces 0 r h he
      exact ⟨cr, by simp only [Instr.findKey, Sem.run_bind, run_underlying hu, Result.andThen_ok, hn, h1], h2⟩

theorem keyV_ok {d : Nat} {t : TypeId} {k : AV} (h : keyV P d t k = true) : okT P t = true := by
  cases d with
  | zero => cases h
  | succ d =>
    unfold okT
    cases hu : P.underlying t with
    | none => simp only [keyV, hu] at h; cases h
    | some _ => rfl

theorem lookupA_rel (hr : HR N φ h w) {t : TypeId} {x k v : AV} {cx ck : Value} {ok : Bool} (hx : VR φ x cx) (hk : VR φ k ck) (hl : lookupA P t x k ok h = some v) :
    Pu P φ w (Instr.lookup t cx ck ok) v := by
  unfold lookupA at hl
  split at hl
  · rename_i kt elem hu
    split at hl
    · cases hl
    · rename_i hkv
      simp only at hl
      split at hl
      · cases hl
      · rename_i es hes
        have hces : ∃ ces : Array MapEntry, (cx = .map none ∧ ces = #[] ∨ ∃ r clock, cx = .map (some r) ∧ w.heap[r]? = some (.map ces clock)) ∧ All2 (EntR φ) es ces.toList := by
          split at hes
          · simp only [VR_nilmap] at hx; subst hx
            cases hes
            exact ⟨#[], .inl ⟨rfl, rfl⟩, trivial⟩
          · rename_i r
            simp only [VR_map] at hx; obtain ⟨L, hL, rfl⟩ := hx
            split at hes
            · rename_i es' clock hb
              cases hes
              obtain ⟨hN, ces, g1, g2⟩ := hr.get hb hL
              exact ⟨ces, .inr ⟨_, _, rfl, g1⟩, g2⟩
            · cases hes
          · cases hes
        obtain ⟨ces, c1, c2⟩ := hces
        have hck := keyV_rel (φ := φ) (P := P) (w := w) 4 10000 (by omega) ces.isEmpty kt k ck hkv hk
        have hok := keyV_ok hkv
        split at hl
        · cases hl
        · rename_i i v' hf
          cases hl
          obtain ⟨cr, f1, cv, rfl, f2⟩ := findKey_rel (w := w) hok hk hf c2
          refine ⟨if ok then .tuple #[cv, .bool true] else cv, ?_, ?_⟩
          · rcases c1 with ⟨rfl, rfl⟩ | ⟨r, clock, rfl, hg⟩
            · simp only [Instr.lookup, Sem.run_bind, run_underlying hu, Result.andThen_ok, hck, f1, Sem.run_pure]
            · simp only [Instr.lookup, Sem.run_bind, run_underlying hu, Result.andThen_ok, getObj_run hg (fun _ _ _ => by simp), hck, f1, Sem.run_pure]
          · cases ok
            · exact f2
            · simp [All2, f2]
        · rename_i hf
          obtain ⟨cr, f1, f2⟩ := findKey_rel (w := w) hok hk hf c2
          simp only [FindR] at f2; subst f2
          split at hl
          · rename_i z hz
            cases hl
            obtain ⟨cz, z1, z2, _⟩ := zeroA_rel (w := w) (φ := φ) hz
            refine ⟨if ok then .tuple #[cz, .bool false] else cz, ?_, ?_⟩
            · rcases c1 with ⟨rfl, rfl⟩ | ⟨r, clock, rfl, hg⟩
              · simp only [Instr.lookup, Sem.run_bind, run_underlying hu, Result.andThen_ok, hck, f1, z1, Sem.run_pure]
              · simp only [Instr.lookup, Sem.run_bind, run_underlying hu, Result.andThen_ok, getObj_run hg (fun _ _ _ => by simp), hck, f1, z1, Sem.run_pure]
            · cases ok
              · exact z2
              · simp [All2, z2]
          · cases hl
  · cases hl

/-! ## the same key -/

theorem same1_eq {a b : AV} (h : same1 a b = true) : a = b ∧ ∀ (c d : Value), VR φ a c → VR φ b d → ∀ n, Instr.sameBits n c d = true := by
  unfold same1 at h
  split at h
  · have e := eq_of_beq h
    subst e
    refine ⟨rfl, fun c d hc hd n => ?_⟩
    simp only [VR_bool] at hc hd; subst hc; subst hd
    cases n <;> simp [Instr.sameBits]
  · simp only [Bool.and_eq_true] at h
    have e1 := eqB_eq h.1
    have e2 := eq_of_beq h.2
    subst e1; subst e2
    refine ⟨rfl, fun c d hc hd n => ?_⟩
    simp only [VR_int] at hc hd; subst hc; subst hd
    cases n <;> simp [Instr.sameBits]
  · rw [listEqB_eq] at h
    have e := eq_of_beq h
    subst e
    refine ⟨rfl, fun c d hc hd n => ?_⟩
    simp only [VR_str] at hc hd; obtain ⟨s, rfl, hs⟩ := hc; obtain ⟨u, rfl, hu⟩ := hd
    have : (s == u) = true := by
      rw [beq_toListBytes, ← map_toNat_beq, ← bytesOf_eq, ← bytesOf_eq, hs, hu]; simp
    cases n <;> simpa [Instr.sameBits] using this
  · cases h

theorem sames_eq : ∀ {a b : List AV}, sames a b = true → a = b ∧ ∀ (c d : List Value), All2 (VR φ) a c → All2 (VR φ) b d → ∀ n, c.length = d.length ∧ ((c.zip d).all fun (x, y) => Instr.sameBits n x y) = true
  | [], [], _ => ⟨rfl, fun c d hc hd n => by rw [All2.nil_left] at hc hd; subst hc; subst hd; exact ⟨rfl, rfl⟩⟩
  | a :: l, b :: r, h => by
    simp only [sames, Bool.and_eq_true] at h
    obtain ⟨e1, f1⟩ := same1_eq (φ := φ) h.1
    obtain ⟨e2, f2⟩ := sames_eq h.2
    subst e1; subst e2
    refine ⟨rfl, fun c d hc hd n => ?_⟩
    obtain ⟨c1, cr, rfl, hc1, hcr⟩ := All2.cons_left.1 hc
    obtain ⟨d1, dr, rfl, hd1, hdr⟩ := All2.cons_left.1 hd
    obtain ⟨g1, g2⟩ := f2 cr dr hcr hdr n
    exact ⟨by simp [g1], by simp only [List.zip_cons_cons, List.all_cons, Bool.and_eq_true]; exact ⟨f1 c1 d1 hc1 hd1 n, g2⟩⟩
  | [], _ :: _, h => by simp [sames] at h
  | _ :: _, [], h => by simp [sames] at h

theorem sameV_eq {a b : AV} {c d : Value} (h : sameV a b = true) (hc : VR φ a c) (hd : VR φ b d) : a = b ∧ Instr.sameBits 10000 c d = true := by
  unfold sameV at h
  split at h
  · obtain ⟨e, f⟩ := sames_eq (φ := φ) h
    subst e
    simp only [VR_agg] at hc hd; obtain ⟨x, rfl, hx⟩ := hc; obtain ⟨y, rfl, hy⟩ := hd
    obtain ⟨g1, g2⟩ := f _ _ hx hy 9999
    refine ⟨rfl, ?_⟩
    have g1' : x.size = y.size := by simpa using g1
    simp only [Instr.sameBits, g1', beq_self_eq_true, Bool.true_and]
    exact g2
  · obtain ⟨e, f⟩ := same1_eq (φ := φ) h
    exact ⟨e, f _ _ hc hd _⟩

theorem setVal_rel {v : AV} {cv : Value} (hv : VR φ v cv) {key : Value} : ∀ (es : List (AV × AV × Nat)) (ces : List MapEntry) (i : Nat), All2 (EntR φ) es ces →
    (∀ e, es[i]? = some e → VR φ e.1 key) → All2 (EntR φ) (setVal v es i) (ces.modify i fun e => { e with key, val := cv })
  | [], ces, i, he, _ => by rw [All2.nil_left] at he; subst he; simp [setVal]
  | e :: es, ces, 0, he, hk => by
    obtain ⟨ce, cr, rfl, ⟨h1, h2, h3⟩, hr⟩ := All2.cons_left.1 he
    exact ⟨⟨hk e rfl, hv, h3⟩, hr⟩
  | e :: es, ces, i + 1, he, hk => by
    obtain ⟨ce, cr, rfl, h1, hr⟩ := All2.cons_left.1 he
    exact ⟨h1, setVal_rel hv es cr i hr (fun x hx => hk x (by simpa using hx))⟩

theorem map_or_set (hr : HR N φ h w) {b : Nat} {es : List (AV × AV × Nat)} {clock : Nat} {L : Loc} (hb : h.t.get b = some (.map es clock)) (hL : φ b = some L)
    {es' : List (AV × AV × Nat)} {ces' : Array MapEntry} (clock' : Nat) (he : All2 (EntR φ) es' ces'.toList) :
    HR N φ { h with t := h.t.set b (some (.map es' clock')) } (setB w L.B (.map ces' clock')) ∧ Below N w (setB w L.B (.map ces' clock')) := by
  have hor := hr.get hb hL
  have hlt := hor.lt
  obtain ⟨hN, ces, g1, g2⟩ := hor
  exact ⟨hr.set hb hL _ (fun k hk => by rw [setB_get hlt, if_neg hk]) ⟨hN, ces', by rw [setB_get hlt, if_pos rfl], he⟩, below_setB _ hN⟩

theorem updateA_rel (hr : HR N φ h w) {t : TypeId} {x k v : AV} {cx ck cv : Value} (hx : VR φ x cx) (hk : VR φ k ck) (hv : VR φ v cv) (hu : updateA P t x k v h = some h') :
    UOk P N φ w (Instr.mapUpdate t cx ck cv) h' := by
  unfold updateA at hu
  split at hu
  · rename_i kt elem r hun
    simp only [VR_map] at hx; obtain ⟨L, hL, rfl⟩ := hx
    split at hu
    · rename_i es clock hkv hb
      obtain ⟨hN, ces, g1, g2⟩ := hr.get hb hL
      have hck := keyV_rel (φ := φ) (P := P) (w := w) 4 10000 (by omega) false kt k ck hkv hk
      have hok := keyV_ok hkv
      split at hu
      · cases hu
      · rename_i i v' hf
        split at hu
        · rename_i hs
          cases hu
          obtain ⟨cr, f1, cv', rfl, f2⟩ := findKey_rel (w := w) hok hk hf g2
          unfold sameAt at hs
          split at hs
          · rename_i e he
            obtain ⟨ce, hce, e1, e2, e3⟩ := g2.get he
            rw [Array.getElem?_toList] at hce
            obtain ⟨q1, q2⟩ := sameV_eq hs e1 hk
            have hm := map_or_set hr hb hL (es' := setVal v es i) (ces' := ces.modify i fun e => { e with key := ck, val := cv }) clock
              (by rw [Array.toList_modify]; exact setVal_rel hv es ces.toList i g2 (fun e' he' => by rw [he] at he'; cases he'; rw [q1]; exact hk))
            refine ⟨φ, _, ?_, φ.le_refl, hm.1, hm.2⟩
            have hne : ∀ c t f, (Obj.map ces clock) ≠ .cells c t f := fun _ _ _ => by simp
            simp only [Instr.mapUpdate, Sem.run_bind, run_underlying hun, Result.andThen_ok, getObj_run g1 hne, hck, f1, hce, Option.map_some, Option.getD_some, Instr.keyThatStays, q2, if_true, Sem.run_pure, setObj_run g1 hne]
          · cases hs
        · cases hu
      · rename_i hf
        cases hu
        obtain ⟨cr, f1, f2⟩ := findKey_rel (w := w) hok hk hf g2
        simp only [FindR] at f2; subst f2
        have hm := map_or_set hr hb hL (es' := es ++ [(k, v, clock)]) (ces' := ces.push { key := ck, val := cv, born := clock }) (clock + 1)
          (by rw [Array.toList_push]; exact g2.append ⟨⟨hk, hv, rfl⟩, trivial⟩)
        refine ⟨φ, _, ?_, φ.le_refl, hm.1, hm.2⟩
        have hne : ∀ c t f, (Obj.map ces clock) ≠ .cells c t f := fun _ _ _ => by simp
        simp only [Instr.mapUpdate, Sem.run_bind, run_underlying hun, Result.andThen_ok, getObj_run g1 hne, hck, f1, setObj_run g1 hne]
    · cases hu
  · cases hu

theorem eraseIdx_rel : ∀ (es : List (AV × AV × Nat)) (ces : List MapEntry) (i : Nat), All2 (EntR φ) es ces → All2 (EntR φ) (es.eraseIdx i) (ces.eraseIdx i)
  | [], ces, i, he => by rw [All2.nil_left] at he; subst he; simp
  | e :: es, ces, 0, he => by obtain ⟨ce, cr, rfl, h1, hr⟩ := All2.cons_left.1 he; exact hr
  | e :: es, ces, i + 1, he => by obtain ⟨ce, cr, rfl, h1, hr⟩ := All2.cons_left.1 he; exact ⟨h1, eraseIdx_rel es cr i hr⟩

theorem deleteA_rel (hr : HR N φ h w) {ts : Array TypeId} {args : Array Value} {ty t : TypeId} {x k : AV} {cx ck : Value} (t0 : ts[0]? = some t) (a0 : args[0]? = some cx) (a1 : args[1]? = some ck)
    (hx : VR φ x cx) (hk : VR φ k ck) (hu : deleteA P t x k h = some h') :
    VOk P N φ w (Builtin.delete_ ts ty args) und h' := by
  have hund : ∀ ψ, VR ψ und (.tuple #[]) := fun ψ => VR_und
  unfold deleteA at hu
  split at hu
  · rename_i kt elem hun
    simp only [VR_nilmap] at hx; subst hx
    split at hu
    · rename_i hkv
      cases hu
      have hck := keyV_rel (φ := φ) (P := P) (w := w) 4 10000 (by omega) true kt k ck hkv hk
      refine ⟨φ, .tuple #[], w, ?_, hund φ, φ.le_refl, hr, Below.refl _ _⟩
      simp only [Builtin.delete_, t0, a0, a1, Sem.run_bind, run_underlying hun, Result.andThen_ok, hck, Sem.run_pure]
    · cases hu
  · rename_i kt elem r hun
    simp only [VR_map] at hx; obtain ⟨L, hL, rfl⟩ := hx
    split at hu
    · rename_i es clock hkv hb
      obtain ⟨hN, ces, g1, g2⟩ := hr.get hb hL
      have hck := keyV_rel (φ := φ) (P := P) (w := w) 4 10000 (by omega) ces.isEmpty kt k ck hkv hk
      have hok := keyV_ok hkv
      have hne : ∀ c t f, (Obj.map ces clock) ≠ .cells c t f := fun _ _ _ => by simp
      split at hu
      · cases hu
      · rename_i i v' hf
        cases hu
        obtain ⟨cr, f1, cv', rfl, f2⟩ := findKey_rel (w := w) hok hk hf g2
        have hm := map_or_set hr hb hL (es' := es.eraseIdx i) (ces' := ces.eraseIdxIfInBounds i) clock
          (by
            have : (ces.eraseIdxIfInBounds i).toList = ces.toList.eraseIdx i := by
              rw [Array.eraseIdxIfInBounds]
              split
              · simp
              · rename_i q; rw [List.eraseIdx_of_length_le (by simpa using q)]
            rw [this]; exact eraseIdx_rel es ces.toList i g2)
        refine ⟨φ, .tuple #[], _, ?_, hund φ, φ.le_refl, hm.1, hm.2⟩
        simp only [Builtin.delete_, t0, a0, a1, Sem.run_bind, run_underlying hun, Result.andThen_ok, getObj_run g1 hne, hck, f1, setObj_run g1 hne, Sem.run_pure]
      · rename_i hf
        cases hu
        obtain ⟨cr, f1, f2⟩ := findKey_rel (w := w) hok hk hf g2
        simp only [FindR] at f2; subst f2
        refine ⟨φ, .tuple #[], w, ?_, hund φ, φ.le_refl, hr, Below.refl _ _⟩
        simp only [Builtin.delete_, t0, a0, a1, Sem.run_bind, run_underlying hun, Result.andThen_ok, getObj_run g1 hne, hck, f1, setObj_run g1 hne, Sem.run_pure, setB_self g1]
    · cases hu
  · cases hu

theorem mapEntryA_rel (hr : HR N φ h w) {t : TypeId} {x k v : AV} {cx ck : Value} (hx : VR φ x cx) (hk : VR φ k ck) (hu : mapEntryA P t x k h = .val v h') :
    VOk P N φ w (Instr.mapEntry t cx ck) v h' := by
  unfold mapEntryA at hu
  split at hu
  · rename_i kt elem r hun
    simp only [VR_map] at hx; obtain ⟨L, hL, rfl⟩ := hx
    split at hu
    · rename_i es clock hkv hb
      obtain ⟨hN, ces, g1, g2⟩ := hr.get hb hL
      have hck := keyV_rel (φ := φ) (P := P) (w := w) 4 10000 (by omega) false kt k ck hkv hk
      have hok := keyV_ok hkv
      have hne : ∀ c t f, (Obj.map ces clock) ≠ .cells c t f := fun _ _ _ => by simp
      split at hu
      · cases hu
      · rename_i i v' hf
        split at hu
        · rename_i e he hs
          simp only [R.val.injEq] at hu; obtain ⟨rfl, rfl⟩ := hu
          obtain ⟨cr, f1, cv', rfl, f2⟩ := findKey_rel (w := w) hok hk hf g2
          unfold sameAt at hs
          rw [he] at hs
          obtain ⟨ce, hce, e1, e2, e3⟩ := g2.get he
          rw [Array.getElem?_toList] at hce
          obtain ⟨q1, q2⟩ := sameV_eq hs e1 hk
          have hent : All2 (EntR φ) es (ces.modify i fun e => { e with key := ck }).toList := by
            rw [Array.toList_modify]
            apply All2.of_get
            · rw [List.length_modify]; exact g2.length
            · intro j a b ha hb
              obtain ⟨c, hc, hR⟩ := g2.get ha
              rw [List.getElem?_modify, hc] at hb
              by_cases q : i = j
              · subst q
                simp only [if_true, Option.map_eq_map, Option.map_some, Option.some.injEq] at hb; subst hb
                rw [he] at ha; cases ha
                exact ⟨by rw [q1]; exact hk, hR.2⟩
              · simp only [q, if_false, Option.map_eq_map, Option.map_some, Option.some.injEq] at hb; subst hb; exact hR
          have hm := map_or_set hr hb hL (es' := es) (ces' := ces.modify i fun e => { e with key := ck }) clock hent
          have hsame : HR N φ h (setB w L.B (.map (ces.modify i fun e => { e with key := ck }) clock)) := by
            refine ⟨fun b' o' hb' hn => ?_, hr.inj, hr.lt, hr.res, hr.glob⟩
            refine hm.1.obj b' o' ?_ hn
            rw [T.get_set]; split
            · rename_i q; subst q; rw [hb] at hb'; exact hb'
            · exact hb'
          refine ⟨φ, .tuple #[cv', goInt ce.born], _, ?_, ?_, φ.le_refl, hsame, hm.2⟩
          · simp only [Instr.mapEntry, Sem.run_bind, run_underlying hun, Result.andThen_ok, getObj_run g1 hne, hck, f1, hce, Option.map_some, Option.getD_some, Instr.keyThatStays, q2, if_true, Sem.run_pure, setObj_run g1 hne]
          · rw [VR_tuple]; exact ⟨_, rfl, f2, by rw [VR_int, e3]; rfl, trivial⟩
        · cases hu
      · rename_i hf
        split at hu
        · rename_i z hz
          simp only [R.val.injEq] at hu; obtain ⟨rfl, rfl⟩ := hu
          obtain ⟨cr, f1, f2⟩ := findKey_rel (w := w) hok hk hf g2
          simp only [FindR] at f2; subst f2
          obtain ⟨cz, z1, z2, _⟩ := zeroA_rel (w := w) (φ := φ) hz
          have hm := map_or_set hr hb hL (es' := es ++ [(k, z, clock)]) (ces' := ces.push { key := ck, val := cz, born := clock }) (clock + 1)
            (by rw [Array.toList_push]; exact g2.append ⟨⟨hk, z2, rfl⟩, trivial⟩)
          refine ⟨φ, .tuple #[cz, goInt clock], _, ?_, ?_, φ.le_refl, hm.1, hm.2⟩
          · simp only [Instr.mapEntry, Sem.run_bind, run_underlying hun, Result.andThen_ok, getObj_run g1 hne, hck, f1, z1, Sem.run_pure, setObj_run g1 hne]
          · rw [VR_tuple]; exact ⟨_, rfl, z2, by rw [VR_int]; rfl, trivial⟩
        · cases hu
    · cases hu
  · cases hu

end
end Go.AX

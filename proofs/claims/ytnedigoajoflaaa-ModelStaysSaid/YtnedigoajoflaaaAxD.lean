/-
  AX: operations: entries of maps, walks; and all operations together.
-/
import Derived.Test.YtnedigoajoflaaaAxC
import Derived.Recover
set_option linter.unusedSimpArgs false
set_option linter.unusedVariables false
namespace Go.AX
open Go.RowKit
section
variable {P : Program} {N : NN} {φ : Phi} {h h' : H} {w : World}
theorem findBorn_rel {born : Int} : ∀ (es : List (AV × AV × Nat)) (ces : List MapEntry) (i j : Nat), findBorn born es i = some j → All2 (EntR φ) es ces →
    i ≤ j ∧ ces.findIdx? (fun e => (e.born : Int) == born) = some (j - i)
  | [], ces, i, j, h, he => by cases h
  | e :: es, ces, i, j, h, he => by
    obtain ⟨ce, cr, rfl, ⟨h1, h2, h3⟩, hr⟩ := All2.cons_left.1 he
    simp only [findBorn] at h
    have hb : (Int.ofNat e.2.2 == born) = ((ce.born : Int) == born) := by rw [h3]; rfl
    split at h
    · rename_i q
      cases h
      rw [hb] at q
      exact ⟨Nat.le_refl _, by rw [List.findIdx?_cons, if_pos q]; simp⟩
    · rename_i q
      rw [hb] at q
      obtain ⟨g1, g2⟩ := findBorn_rel es cr (i + 1) j h hr
      refine ⟨by omega, ?_⟩
      rw [List.findIdx?_cons, if_neg (by simp [q]), g2]
      simp; omega
theorem entryStoreA_rel (hr : HR N φ h w) {t : TypeId} {x s v : AV} {cx cs cv : Value} (hx : VR φ x cx) (hs : VR φ s cs) (hv : VR φ v cv) (hu : entryStoreA x s v h = some h') :
    UOk P N φ w (Instr.entryStore t cx cs cv) h' := by
  unfold entryStoreA at hu
  split at hu
  · rename_i r k born
    simp only [VR_map] at hx; obtain ⟨L, hL, rfl⟩ := hx
    simp only [VR_int] at hs; subst hs
    split at hu
    · rename_i es clock hb
      split at hu
      · rename_i i hf
        cases hu
        obtain ⟨hN, ces, g1, g2⟩ := hr.get hb hL
        have hne : ∀ c t f, (Obj.map ces clock) ≠ .cells c t f := fun _ _ _ => by simp
        obtain ⟨_, hf'⟩ := findBorn_rel es ces.toList 0 i hf g2
        have hf2 : ces.findIdx? (fun e => (e.born : Int) == born) = some i := by
          have e : ces = ces.toList.toArray := by simp
          rw [e, List.findIdx?_toArray]; simpa using hf'
        have hm := map_or_set hr hb hL (es' := setVal v es i) (ces' := ces.modify i fun e => { e with val := cv }) clock (by
          rw [Array.toList_modify]
          have : ∀ (es : List (AV × AV × Nat)) (ces : List MapEntry) (i : Nat), All2 (EntR φ) es ces → All2 (EntR φ) (setVal v es i) (ces.modify i fun e => { e with val := cv }) := by
            intro es
            induction es with
            | nil => intro ces i he; rw [All2.nil_left] at he; subst he; simp [setVal]
            | cons e es ih =>
              intro ces i he
              obtain ⟨ce, cr, rfl, ⟨h1, h2, h3⟩, hr⟩ := All2.cons_left.1 he
              cases i with
              | zero => exact ⟨⟨h1, hv, h3⟩, hr⟩
              | succ i => exact ⟨⟨h1, h2, h3⟩, ih cr i hr⟩
          exact this es ces.toList i g2)
        refine ⟨φ, _, ?_, φ.le_refl, hm.1, hm.2⟩
        simp only [Instr.entryStore, Sem.run_bind, getObj_run g1 hne, Result.andThen_ok, asInt, asIntOf, Sem.run_pure, hf2, setObj_run g1 hne]
      · cases hu
    · cases hu
  · cases hu
theorem obj_push (hr : HR N φ h w) {o : AObj} {O : Obj} (ho : ∀ ψ, φ.le ψ → OR ψ N ⟨w.heap.size, 0, 0⟩ { w with heap := w.heap.push O } o) :
    HR N (φ.ins h.nx ⟨w.heap.size, 0, 0⟩) (h.alloc o) { w with heap := w.heap.push O } ∧ φ.le (φ.ins h.nx ⟨w.heap.size, 0, 0⟩) :=
  hr.push O 0 0 o rfl (ho _ (Phi.le_ins _ (hr.lt _ (Nat.le_refl _))))
theorem rangeA_rel (hr : HR N φ h w) (hN : N ≤ w.heap.size) {t : TypeId} {x v : AV} {cx : Value} (hx : VR φ x cx) (hu : rangeA P t x h = .val v h') :
    VOk P N φ w (Instr.range t cx) v h' := by
  unfold rangeA at hu
  split at hu
  · rename_i s hun
    simp only [R.val.injEq] at hu; obtain ⟨rfl, rfl⟩ := hu
    simp only [VR_str] at hx; obtain ⟨b, rfl, rfl⟩ := hx
    have hp := obj_push hr (o := .strIter (bytesOf b) 0) (O := .stringIter b 0) (fun ψ _ => ⟨⟨hN, rfl⟩, b, by simp, rfl⟩)
    refine ⟨_, .pointer (some ⟨w.heap.size, 0, none⟩), _, ?_, ?_, hp.2, hp.1, below_push _ hN⟩
    · simp only [Instr.range, Sem.run_bind, run_underlying hun, Result.andThen_ok, Sem.run_pure, run_newObj]
    · rw [VR_ptr]; exact ⟨_, Phi.ins_same _ _ _, by simp⟩
  · rename_i k e hun
    simp only [R.val.injEq] at hu; obtain ⟨rfl, rfl⟩ := hu
    simp only [VR_nilmap] at hx; subst hx
    have hp := obj_push hr (o := .mapIter none 0 [] 0) (O := .mapIter none 0 #[] 0) (fun ψ _ => ⟨⟨hN, rfl⟩, none, by simp, rfl⟩)
    refine ⟨_, .pointer (some ⟨w.heap.size, 0, none⟩), _, ?_, ?_, hp.2, hp.1, below_push _ hN⟩
    · simp only [Instr.range, Sem.run_bind, run_underlying hun, Result.andThen_ok, Sem.run_pure, run_newObj]
    · rw [VR_ptr]; exact ⟨_, Phi.ins_same _ _ _, by simp⟩
  · rename_i k e m hun
    simp only [VR_map] at hx; obtain ⟨L, hL, rfl⟩ := hx
    split at hu
    · rename_i es clock hb
      simp only [R.val.injEq] at hu; obtain ⟨rfl, rfl⟩ := hu
      obtain ⟨ces, g1, g2⟩ := hr.mapOf hb hL
      have hp := obj_push hr (o := .mapIter (some m) clock [] clock) (O := .mapIter (some L.B) clock #[] clock) (fun ψ hle => ⟨⟨hN, rfl⟩, some L.B, by simp, L, hle _ _ hL, rfl⟩)
      refine ⟨_, .pointer (some ⟨w.heap.size, 0, none⟩), _, ?_, ?_, hp.2, hp.1, below_push _ hN⟩
      · simp only [Instr.range, Sem.run_bind, run_underlying hun, Result.andThen_ok, getObj_run g1 (fun _ _ _ => by simp), Sem.run_pure, run_newObj]
      · rw [VR_ptr]; exact ⟨_, Phi.ins_same _ _ _, by simp⟩
    · cases hu
  · cases hu
theorem notIn_eq (x : Nat) : ∀ l : List Nat, notIn l x = !l.contains x
  | [] => rfl
  | y :: l => by
    simp only [notIn, List.contains_cons]
    cases h : Nat.beq x y
    · have := Nat.ne_of_beq_eq_false h
      simp [this, notIn_eq x l]
    · have := Nat.eq_of_beq_eq_true h
      simp [this]
theorem filter_rel (seen : List Nat) : ∀ (es : List (AV × AV × Nat)) (ces : List MapEntry), All2 (EntR φ) es ces →
    All2 (EntR φ) (es.filter fun e => notIn seen e.2.2) (ces.filter fun e => !seen.toArray.contains e.born)
  | [], ces, he => by rw [All2.nil_left] at he; subst he; simp
  | e :: es, ces, he => by
    obtain ⟨ce, cr, rfl, ⟨h1, h2, h3⟩, hr⟩ := All2.cons_left.1 he
    have ih := filter_rel seen es cr hr
    have hb : notIn seen e.2.2 = !seen.toArray.contains ce.born := by rw [notIn_eq, h3]; simp
    simp only [List.filter_cons, hb]
    cases seen.toArray.contains ce.born
    · exact ⟨⟨h1, h2, h3⟩, ih⟩
    · exact ih
theorem all_rel (last : Nat) : ∀ (es : List (AV × AV × Nat)) (ces : List MapEntry), All2 (EntR φ) es ces → (es.all fun e => Nat.ble last e.2.2) = (ces.all fun e => decide (e.born ≥ last))
  | [], ces, he => by rw [All2.nil_left] at he; subst he; simp
  | e :: es, ces, he => by
    obtain ⟨ce, cr, rfl, ⟨h1, h2, h3⟩, hr⟩ := All2.cons_left.1 he
    simp only [List.all_cons, all_rel last es cr hr]
    congr 1
    rw [h3, Bool.eq_iff_iff]; simp
theorem nextA_rel (hr : HR N φ h w) {t : TypeId} {x v : AV} {cx : Value} {isS : Bool} (hx : VR φ x cx) (hu : nextA x isS h = .val v h') :
    VOk P N φ w (Instr.next cx isS t) v h' := by
  unfold nextA at hu
  split at hu
  · rename_i r
    simp only [VR_ptr] at hx; obtain ⟨L, hL, rfl⟩ := hx
    split at hu
    · rename_i s pos hb
      obtain ⟨⟨hN, hb0⟩, ba, g1, g2⟩ := hr.get hb hL
      have hne : ∀ c t f, (Obj.stringIter ba pos) ≠ .cells c t f := fun _ _ _ => by simp
      split at hu
      · rename_i x hx
        split at hu
        · rename_i hlt
          simp only [R.val.injEq] at hu; obtain ⟨rfl, rfl⟩ := hu
          have hlt : x < 128 := Nat.le_of_ble_eq_true hlt
          rw [← g2] at hx
          simp only [bytesOf, List.getElem?_map] at hx
          cases hq : ba.data.toList[pos]? with
          | none => rw [hq] at hx; cases hx
          | some u =>
            rw [hq] at hx
            simp only [Option.map_some, Option.some.injEq] at hx
            have hps := (List.getElem?_eq_some_iff.1 hq)
            obtain ⟨hpos, hval⟩ := hps
            have hpos' : pos < ba.size := by simpa using hpos
            have hget : ba.get! pos = u := by
              have : pos < ba.data.size := by simpa using hpos
              show ba.data[pos]! = u
              rw [getElem!_pos ba.data pos this]
              rw [← hval]; simp
            have hdec : Utf8.decode ba pos = (x, 1) := by
              simp only [Utf8.decode, Nat.add_zero, hget, hx]
              rw [if_pos (by simpa using hlt)]
            have hor : OR φ N L (setB w L.B (.stringIter ba (pos + 1))) (.strIter s (pos + 1)) :=
              ⟨⟨hN, hb0⟩, ba, by rw [setB_get (hr.get hb hL).lt, if_pos rfl], g2⟩
            refine ⟨φ, .tuple #[.bool true, goInt pos, .int .i32 x], setB w L.B (.stringIter ba (pos + 1)), ?_, by simp [All2, goInt], φ.le_refl,
              hr.set hb hL _ (fun k hk => by rw [setB_get (hr.get hb hL).lt, if_neg hk]) hor, below_setB _ hN⟩
            simp only [Instr.next, hb0, Nat.add_zero, Sem.run_bind, getObj_run g1 hne, Result.andThen_ok, hpos', if_true, hdec, setObj_run g1 hne, Sem.run_pure]
        · cases hu
      · rename_i hx
        simp only [R.val.injEq] at hu; obtain ⟨rfl, rfl⟩ := hu
        refine Pu.vok hr ⟨.tuple #[.bool false], ?_, by simp [All2]⟩
        have hpos' : ¬ pos < ba.size := by
          rw [← g2] at hx
          simp only [bytesOf, List.getElem?_map, Option.map_eq_none_iff, List.getElem?_eq_none_iff] at hx
          have : ba.data.toList.length = ba.size := by simp
          omega
        simp only [Instr.next, hb0, Nat.add_zero, Sem.run_bind, getObj_run g1 hne, Result.andThen_ok, hpos', if_false, Sem.run_pure]
    · rename_i since seen last hb
      simp only [R.val.injEq] at hu; obtain ⟨rfl, rfl⟩ := hu
      obtain ⟨⟨hN, hb0⟩, m', g1, g2⟩ := hr.get hb hL
      simp only at g2; subst g2
      refine Pu.vok hr ⟨.tuple #[.bool false], ?_, by simp [All2]⟩
      have hne : ∀ c t f, (Obj.mapIter none since seen.toArray last) ≠ .cells c t f := fun _ _ _ => by simp
      simp only [Instr.next, hb0, Nat.add_zero, Sem.run_bind, getObj_run g1 hne, Result.andThen_ok, Sem.run_pure]
    · rename_i m since seen last hb
      split at hu
      · rename_i es clock hm
        obtain ⟨⟨hN, hb0⟩, m', g1, M, hM, rfl⟩ := hr.get hb hL
        obtain ⟨hN', ces, g3, g4⟩ := hr.get hm hM
        have hne : ∀ c t f, (Obj.mapIter (some M.B) since seen.toArray last) ≠ .cells c t f := fun _ _ _ => by simp
        have hne' : ∀ c t f, (Obj.map ces clock) ≠ .cells c t f := fun _ _ _ => by simp
        have hcond : (!seen.toArray.isEmpty && !ces.isEmpty && ces.all fun e => decide (e.born ≥ last)) = (!seen.isEmpty && !es.isEmpty && es.all fun e => Nat.ble last e.2.2) := by
          rw [all_rel last es ces.toList g4]
          have e1 : es.isEmpty = ces.isEmpty := by
            have := g4.length
            rw [Bool.eq_iff_iff, List.isEmpty_iff, Array.isEmpty_iff, ← List.length_eq_zero_iff, this]; simp
          rw [e1]; simp
        split at hu
        · cases hu
        · rename_i hcf
          rw [hcf] at hcond
          have hfil := filter_rel seen es ces.toList g4
          have hfa : (ces.filter fun e => !seen.toArray.contains e.born).toList = ces.toList.filter fun e => !seen.toArray.contains e.born := by simp
          split at hu
          · rename_i hl
            simp only [R.val.injEq] at hu; obtain ⟨rfl, rfl⟩ := hu
            rw [hl, All2.nil_left, ← hfa] at hfil
            have hleft : (ces.filter fun e => !seen.toArray.contains e.born) = #[] := Array.toList_eq_nil_iff.1 hfil
            refine Pu.vok hr ⟨.tuple #[.bool false], ?_, by simp [All2]⟩
            simp only [Instr.next, hb0, Nat.add_zero, Sem.run_bind, getObj_run g1 hne, Result.andThen_ok, getObj_run g3 hne', hcond, Bool.false_eq_true, if_false, hleft]
            simp [Question.forced]
          · rename_i e hl
            split at hu
            · rename_i hbl
              simp only [R.val.injEq] at hu; obtain ⟨rfl, rfl⟩ := hu
              rw [hl] at hfil
              obtain ⟨ce, cr, hce, ⟨e1, e2, e3⟩, hnil⟩ := All2.cons_left.1 hfil
              rw [All2.nil_left] at hnil; subst hnil
              rw [← hfa] at hce
              have hleft : (ces.filter fun e => !seen.toArray.contains e.born) = #[ce] := Array.ext' hce
              have hlt : ce.born < since := by
                rw [e3]
                have q := Nat.le_of_ble_eq_true hbl
                omega
              have hor : OR φ N L (setB w L.B (.mapIter (some M.B) since (seen.toArray.push ce.born) clock)) (.mapIter (some m) since (seen ++ [e.2.2]) clock) := by
                refine ⟨⟨hN, hb0⟩, some M.B, ?_, M, hM, rfl⟩
                rw [setB_get (hr.get hb hL).lt, if_pos rfl, e3]; simp
              refine ⟨φ, .tuple #[.bool true, ce.key, ce.val], setB w L.B (.mapIter (some M.B) since (seen.toArray.push ce.born) clock), ?_, by simp [All2, e1, e2], φ.le_refl,
                hr.set hb hL _ (fun k hk => by rw [setB_get (hr.get hb hL).lt, if_neg hk]) hor, below_setB _ hN⟩
              simp only [Instr.next, hb0, Nat.add_zero, Sem.run_bind, getObj_run g1 hne, Result.andThen_ok, getObj_run g3 hne', hcond, Bool.false_eq_true, if_false, hleft]
              have hge : ¬ (since ≤ ce.born) := by omega
              simp [hlt, hge, Question.forced, setObj_run g1 hne]
            · cases hu
          · cases hu
      · cases hu
    · cases hu
  · cases hu
theorem lastOf_back : ∀ (l : List Nat) (b : Nat), lastOf l = some b → l.toArray.back? = some b
  | [], _, h => by cases h
  | [x], b, h => by simp only [lastOf, Option.some.injEq] at h; subst h; rfl
  | x :: y :: l, b, h => by
    have := lastOf_back (y :: l) b (by simpa [lastOf] using h)
    simpa using this
theorem findStamp_rel (b : Nat) : ∀ (es : List (AV × AV × Nat)) (ces : List MapEntry) (v : AV), All2 (EntR φ) es ces → findStamp b es = some v →
    ∃ ce, ces.find? (fun e => e.born == b) = some ce ∧ VR φ v (.tuple #[ce.key, ce.val])
  | [], _, _, _, h => by cases h
  | e :: es, ces, v, he, h => by
    obtain ⟨ce, cr, rfl, ⟨h1, h2, h3⟩, hr⟩ := All2.cons_left.1 he
    simp only [findStamp] at h
    split at h
    · rename_i hb
      simp only [Option.some.injEq] at h; subst h
      have := Nat.eq_of_beq_eq_true hb
      exact ⟨ce, by simp [h3, this], by simp [All2, h1, h2]⟩
    · rename_i hb
      have := Nat.ne_of_beq_eq_false hb
      obtain ⟨c, q1, q2⟩ := findStamp_rel b es cr v hr h
      exact ⟨c, by simp [h3, this, q1], q2⟩
theorem entryA_rel (hr : HR N φ h w) {x v : AV} {cx : Value} (hx : VR φ x cx) (hu : entryA x h = some v) : ∃ cv, (Instr.entry cx).run P w = .ok cv w ∧ VR φ v cv := by
  unfold entryA at hu
  split at hu
  · rename_i r
    simp only [VR_ptr] at hx; obtain ⟨L, hL, rfl⟩ := hx
    split at hu
    · rename_i m since seen stepped hb
      split at hu
      · rename_i stamp es clock hl hm
        split at hu
        · rename_i hc
          have hc := Nat.eq_of_beq_eq_true hc; subst hc
          obtain ⟨⟨hN, hb0⟩, m', g1, M, hM, rfl⟩ := hr.get hb hL
          obtain ⟨ces, g3, g4⟩ := hr.mapOf hm hM
          have hne : ∀ c t f, (Obj.mapIter (some M.B) since seen.toArray clock) ≠ .cells c t f := fun _ _ _ => by simp
          have hne' : ∀ c t f, (Obj.map ces clock) ≠ .cells c t f := fun _ _ _ => by simp
          obtain ⟨ce, q1, q2⟩ := findStamp_rel stamp es ces.toList v g4 hu
          refine ⟨_, ?_, q2⟩
          have hbk := lastOf_back _ _ hl
          have hf : ces.find? (fun e => e.born == stamp) = some ce := by rw [← Array.find?_toList]; exact q1
          simp only [Instr.entry, hb0, Nat.add_zero, Sem.run_bind, getObj_run g1 hne, Result.andThen_ok, hbk, getObj_run g3 hne', bne_self_eq_false, Bool.false_eq_true, if_false, hf, Sem.run_pure]
        · cases hu
      · cases hu
    · cases hu
  · cases hu
end
end Go.AX

namespace Go.AX
open Go.RowKit
def ev (tmps : Array Value) : Operand → Value
  | .tmp t => tmps.getD t undef
  | .const v => v
  | .global g => .pointer (some ⟨g, 0, none⟩)
  | .func f => .func (.func f) #[] #[]
theorem Frame.eval_ev (fr : Frame) : fr.eval = ev fr.tmps := by
  funext x; cases x <;> rfl
section
variable {P : Program} {N : NN} {φ : Phi} {h h' : H} {w : World} {nt : Nat} {tm : T AV} {tmps : Array Value}
theorem evalA_rel (tr : TR φ nt tm tmps) {x : Operand} {v : AV} (h : evalA tm x = some v) : VR φ v (ev tmps x) := by
  cases x with
  | tmp t =>
    have := tr.2 t
    simp only [evalA] at h
    split at h
    · rename_i u hu; cases h; rw [hu] at this; exact this
    · rename_i hu; cases h; rw [hu] at this; exact this
  | const v => exact ofVal_rel h
  | global g => cases h
  | func f => cases h; rw [VR_func]; exact ⟨#[], #[], rfl, trivial, trivial⟩
theorem evalG_rel (tr : TR φ nt tm tmps) (hr : HR N φ h w) {x : Operand} {v : AV} (e : evalG tm h x = some v) : VR φ v (ev tmps x) := by
  unfold evalG at e
  split at e
  · rename_i g
    split at e
    · rename_i hg
      cases e
      rw [VR_ptr]
      exact ⟨_, hr.glob g (Nat.le_of_ble_eq_true hg), rfl⟩
    · cases e
  · exact evalA_rel tr e
theorem evalsA_rel (tr : TR φ nt tm tmps) : ∀ {l : List Operand} {vs : List AV}, evalsA tm l = some vs → All2 (VR φ) vs (l.map (ev tmps))
  | [], vs, h => by simp only [evalsA, Option.some.injEq] at h; subst h; trivial
  | x :: l, vs, h => by
    simp only [evalsA] at h
    split at h
    · cases h
    · rename_i v hv
      split at h
      · cases h
      · rename_i vs' hvs; cases h; exact ⟨evalA_rel tr hv, evalsA_rel tr hvs⟩
theorem evalP_rel (tr : TR φ nt tm tmps) : ∀ {l : List (Nat × Operand)} {vs : List (Nat × AV)}, evalP tm l = some vs →
    All2 (fun (a : Nat × AV) (b : Nat × Value) => a.1 = b.1 ∧ VR φ a.2 b.2) vs (l.map fun p => (p.1, ev tmps p.2))
  | [], vs, h => by simp only [evalP, Option.some.injEq] at h; subst h; trivial
  | (i, x) :: l, vs, h => by
    simp only [evalP] at h
    split at h
    · cases h
    · rename_i v hv
      split at h
      · cases h
      · rename_i vs' hvs; cases h; exact ⟨⟨rfl, evalA_rel tr hv⟩, evalP_rel tr hvs⟩
theorem evalO_rel (tr : TR φ nt tm tmps) {x : Option Operand} {v : Option AV} (h : evalO tm x = some v) : OptR φ v (x.map (ev tmps)) := by
  cases x with
  | none => simp only [evalO, Option.some.injEq] at h; subst h; rfl
  | some x =>
    simp only [evalO] at h
    split at h
    · cases h
    · rename_i u hu; cases h; exact ⟨_, rfl, evalA_rel tr hu⟩
def RR (P : Program) (N : NN) (φ : Phi) (w : World) (m : Result Next) : R → Prop
  | .val v h' => ∃ φ' cv w', m = .ok (.value cv) w' ∧ VR φ' v cv ∧ φ.le φ' ∧ HR N φ' h' w' ∧ Below N w w'
  | .skip h' => ∃ φ' w', m = .ok .skip w' ∧ φ.le φ' ∧ HR N φ' h' w' ∧ Below N w w'
  | .enter f args h' => ∃ cargs, m = .ok (.enter f cargs) w ∧ All2 (VR φ) args cargs.toList ∧ HR N φ h' w
  | .ext f args h' => ∃ cargs, m = (callFunc f cargs).run P w ∧ All2 (VR φ) args cargs.toList ∧ HR N φ h' w
  | .round l args h' => ∃ L cargs, φ l = some L ∧ m = (Instr.yield L.B cargs).run P w ∧ All2 (VR φ) args cargs.toList ∧ HR N φ h' w
  | .defer d h' => ∃ cd, m = .ok (.defer cd) w ∧ DR φ d cd ∧ HR N φ h' w
  | .recover h' => m = .ok .recover w ∧ HR N φ h' w
  | .panic v h' => ∃ cv, m = .halt (.panic cv) w ∧ VR φ v cv ∧ HR N φ h' w
  | .fail => True
theorem VOk.rr {m : Sem Value} {v : AV} (x : VOk P N φ w m v h') : RR P N φ w ((do pure (Next.value (← m)) : Sem Next).run P w) (.val v h') := by
  obtain ⟨φ', cv, w', h1, h2⟩ := x
  exact ⟨φ', cv, w', by simp only [Sem.run_bind, h1, Result.andThen_ok, Sem.run_pure], h2⟩
theorem UOk.rr {m : Sem Unit} (x : UOk P N φ w m h') : RR P N φ w ((do m; pure Next.skip : Sem Next).run P w) (.skip h') := by
  obtain ⟨φ', w', h1, h2⟩ := x
  exact ⟨φ', w', by simp only [Sem.run_bind, h1, Result.andThen_ok, Sem.run_pure], h2⟩
theorem optV_rr {m : Sem Value} {o : Option AV} (hr : HR N φ h w) (x : ∀ v, o = some v → Pu P φ w m v) : RR P N φ w ((do pure (Next.value (← m)) : Sem Next).run P w) (optV h o) := by
  cases o with
  | none => trivial
  | some v => exact ((x v rfl).vok hr).rr
theorem optH_rr {m : Sem Unit} {o : Option H} (x : ∀ h', o = some h' → UOk P N φ w m h') : RR P N φ w ((do m; pure Next.skip : Sem Next).run P w) (optH o) := by
  cases o with
  | none => trivial
  | some h' => exact (x h' rfl).rr
theorem vals_rr {m : Sem Value} {r : R} (hs : (∃ v h', r = .val v h') ∨ r = .fail) (x : ∀ v h', r = .val v h' → VOk P N φ w m v h') : RR P N φ w ((do pure (Next.value (← m)) : Sem Next).run P w) r := by
  rcases hs with ⟨v, h', rfl⟩ | rfl
  · exact (x v h' rfl).rr
  · trivial
theorem callFunc_run {f : FuncId} (h : enterOk P f = true) (args : Array Value) : (callFunc f args).run P w = .ok (.enter f args) w := by
  unfold enterOk at h
  split at h
  · rename_i fn hf
    simp only [Bool.and_eq_true, Bool.not_eq_true'] at h
    have hb : fn.body.isNone = false := by cases hx : fn.body <;> simp_all
    simp only [callFunc, Sem.run_bind, run_program, Result.andThen_ok, hf, h.2, Bool.false_eq_true, if_false, hb, Sem.run_pure]
  · cases h
theorem callV_rel (hr : HR N φ h w) {f : AV} {cf : Value} {args : List AV} {cargs : Array Value} (hf : VR φ f cf) (ha : All2 (VR φ) args cargs.toList) :
    RR P N φ w ((do let d ← Deferred.ofValue cf cargs; invoke d.target d.args).run P w) (callV P f args h) := by
  unfold callV
  split
  · rename_i g first cap
    simp only [VR_func] at hf; obtain ⟨a, b, rfl, h1, h2⟩ := hf
    split
    · rename_i he
      refine ⟨a ++ cargs ++ b, ?_, by simp only [Array.toList_append]; exact (h1.append ha).append h2, hr⟩
      simp only [Deferred.ofValue, Sem.run_bind, Sem.run_pure, Result.andThen_ok, invoke, callFunc_run he]
    · refine ⟨a ++ cargs ++ b, ?_, by simp only [Array.toList_append]; exact (h1.append ha).append h2, hr⟩
      simp only [Deferred.ofValue, Sem.run_bind, Sem.run_pure, Result.andThen_ok, invoke]
  · simp only [VR_yield] at hf; obtain ⟨L, hL, rfl⟩ := hf
    refine ⟨L, cargs, hL, ?_, ha, hr⟩
    simp only [Deferred.ofValue, Sem.run_bind, Sem.run_pure, Result.andThen_ok, invoke, Array.empty_append]
  · trivial
theorem shape_appendN {e : TypeId} {size n : Nat} {s : AV} {new : List AV} {h : H} : (∃ v h', appendN e size s n new h = .val v h') ∨ appendN e size s n new h = .fail := by
  unfold appendN
  repeat' (first | (exact .inr rfl) | (exact .inl ⟨_, _, rfl⟩) | split | simp only [])
theorem shape_append {e : TypeId} {s x : AV} {h : H} : (∃ v h', appendA P e s x h = .val v h') ∨ appendA P e s x h = .fail := by
  unfold appendA
  repeat' (first | (exact .inr rfl) | (exact .inl ⟨_, _, rfl⟩) | exact shape_appendN | split | simp only [])
theorem shape_appendZ {e : TypeId} {s x : AV} {h : H} : (∃ v h', appendZ P e s x h = .val v h') ∨ appendZ P e s x h = .fail := by
  unfold appendZ
  repeat' (first | (exact .inr rfl) | (exact .inl ⟨_, _, rfl⟩) | exact shape_appendN | split | simp only [])
theorem shape_unsafeStr {t : TypeId} {p : AV} {n : Nat} {h : H} : (∃ v h', unsafeStrA P t p n h = .val v h') ∨ unsafeStrA P t p n h = .fail := by
  unfold unsafeStrA
  repeat' (first | (exact .inr rfl) | (exact .inl ⟨_, _, rfl⟩) | split | simp only [])
theorem shape_copy {e : TypeId} {s x : AV} {h : H} : (∃ v h', copyA P e s x h = .val v h') ∨ copyA P e s x h = .fail := by
  unfold copyA
  repeat' (first | (exact .inr rfl) | (exact .inl ⟨_, _, rfl⟩) | split | simp only [])
theorem shape_buildSlice {t : TypeId} {len : Nat} {l : List (Nat × AV)} {h : H} : (∃ v h', buildSliceA P t len l h = .val v h') ∨ buildSliceA P t len l h = .fail := by
  unfold buildSliceA
  repeat' (first | (exact .inr rfl) | (exact .inl ⟨_, _, rfl⟩) | split | simp only [])
theorem shape_makeSlice {t : TypeId} {a b : AV} {h : H} : (∃ v h', makeSliceA P t a b h = .val v h') ∨ makeSliceA P t a b h = .fail := by
  unfold makeSliceA
  repeat' (first | (exact .inr rfl) | (exact .inl ⟨_, _, rfl⟩) | split | simp only [])
theorem shape_toUnsafe {t : TypeId} {x : AV} {h : H} : (∃ v h', toUnsafeA P t x h = .val v h') ∨ toUnsafeA P t x h = .fail := by
  unfold toUnsafeA
  repeat' (first | (exact .inr rfl) | (exact .inl ⟨_, _, rfl⟩) | split | simp only [])
theorem shape_fromUnsafe {t : TypeId} {x : AV} {h : H} : (∃ v h', fromUnsafeA P t x h = .val v h') ∨ fromUnsafeA P t x h = .fail := by
  unfold fromUnsafeA
  repeat' (first | (exact .inr rfl) | (exact .inl ⟨_, _, rfl⟩) | split | simp only [])
theorem shape_convert {a b : TypeId} {x : AV} {h : H} : (∃ v h', convertA P a b x h = .val v h') ∨ convertA P a b x h = .fail := by
  unfold convertA
  repeat' (first | (exact .inr rfl) | (exact .inl ⟨_, _, rfl⟩) | (simp only [forceInt_eq]; exact .inl ⟨_, _, rfl⟩) | split | simp only [])
theorem shape_mapEntry {t : TypeId} {a b : AV} {h : H} : (∃ v h', mapEntryA P t a b h = .val v h') ∨ mapEntryA P t a b h = .fail := by
  unfold mapEntryA
  repeat' (first | (exact .inr rfl) | (exact .inl ⟨_, _, rfl⟩) | split | simp only [])
theorem shape_range {t : TypeId} {a : AV} {h : H} : (∃ v h', rangeA P t a h = .val v h') ∨ rangeA P t a h = .fail := by
  unfold rangeA
  repeat' (first | (exact .inr rfl) | (exact .inl ⟨_, _, rfl⟩) | split | simp only [])
theorem shape_next {a : AV} {b : Bool} {h : H} : (∃ v h', nextA a b h = .val v h') ∨ nextA a b h = .fail := by
  unfold nextA
  repeat' (first | (exact .inr rfl) | (exact .inl ⟨_, _, rfl⟩) | split | simp only [])
end
end Go.AX

namespace Go.AX
open Go.RowKit
section
variable {P : Program} {N : NN} {φ : Phi} {h h' : H} {w : World} {nt : Nat} {tm : T AV} {tmps : Array Value}
theorem max_rel {k k' : IntKind} {x y : Int} {ts : Array TypeId} {ty : TypeId} {args : Array Value} (ha : args.toList = [.int k x, .int k' y]) :
    (Builtin.max_ ts ty args).run P w = .ok (.int k (if y > x then y else x)) w ∧ (Builtin.min_ ts ty args).run P w = .ok (.int k (if y < x then y else x)) w := by
  constructor
  · simp only [Builtin.max_, ha, List.foldlM_cons, List.foldlM_nil, Builtin.max2, Sem.run_bind, Sem.run_pure, Result.andThen_ok]
  · simp only [Builtin.min_, ha, List.foldlM_cons, List.foldlM_nil, Builtin.min2, Sem.run_bind, Sem.run_pure, Result.andThen_ok]
theorem builtinA_rel (hr : HR N φ h w) (hN : N ≤ w.heap.size) {b : Builtin} {ts : Array TypeId} {ty : TypeId} {consts : Array Bool} {args : List AV} {cargs : Array Value} (ha : All2 (VR φ) args cargs.toList) :
    RR P N φ w ((builtin b ts ty consts cargs).run P w) (builtinA P b ts.toList args h) := by
  unfold builtinA
  split
  · rename_i t tr x xr hts
    have t0 : ts[0]? = some t := by rw [← Array.getElem?_toList, hts]; rfl
    obtain ⟨cx, cr, hc, hx, _⟩ := All2.cons_left.1 ha
    have a0 : cargs[0]? = some cx := by rw [← Array.getElem?_toList, hc]; rfl
    split
    · rename_i n hl
      have := lenA_rel (P := P) (ty := ty) hr t0 a0 hx hl
      exact (Pu.vok hr ⟨_, this, VR_int.2 rfl⟩).rr
    · trivial
  · rename_i t tr x xr hts
    have t0 : ts[0]? = some t := by rw [← Array.getElem?_toList, hts]; rfl
    obtain ⟨cx, cr, hc, hx, _⟩ := All2.cons_left.1 ha
    have a0 : cargs[0]? = some cx := by rw [← Array.getElem?_toList, hc]; rfl
    split
    · rename_i n hl
      have := capA_rel (P := P) (w := w) (ty := ty) t0 a0 hx hl
      exact (Pu.vok hr ⟨_, this, VR_int.2 rfl⟩).rr
    · trivial
  · rename_i t u tr s x xr hts
    have t0 : ts[0]? = some t := by rw [← Array.getElem?_toList, hts]; rfl
    have t1 : ts[1]? = some u := by rw [← Array.getElem?_toList, hts]; rfl
    obtain ⟨cs, cr, hc, hs, har⟩ := All2.cons_left.1 ha
    obtain ⟨cx, cr', hc', hx, _⟩ := All2.cons_left.1 har
    subst hc'
    have a0 : cargs[0]? = some cs := by rw [← Array.getElem?_toList, hc]; rfl
    have a1 : cargs[1]? = some cx := by rw [← Array.getElem?_toList, hc]; rfl
    split
    · rename_i e k ht hd
      exact vals_rr shape_appendZ fun v h' hv => appendZ_rel hr hN t0 t1 a0 a1 ht hd hs hx hv
    · rename_i e d hne ht hd
      exact vals_rr shape_append fun v h' hv => appendA_rel hr hN t0 t1 a0 a1 ht hd (fun k e => hne k e) hs hx hv
    · trivial
  · rename_i t tr s x xr hts
    have t0 : ts[0]? = some t := by rw [← Array.getElem?_toList, hts]; rfl
    obtain ⟨cs, cr, hc, hs, har⟩ := All2.cons_left.1 ha
    obtain ⟨cx, cr', hc', hx, _⟩ := All2.cons_left.1 har
    subst hc'
    have a0 : cargs[0]? = some cs := by rw [← Array.getElem?_toList, hc]; rfl
    have a1 : cargs[1]? = some cx := by rw [← Array.getElem?_toList, hc]; rfl
    split
    · rename_i e ht
      exact vals_rr shape_copy fun v h' hv => copyA_rel hr t0 a0 a1 ht hs hx hv
    · trivial
  · rename_i t tr m k kr hts
    have t0 : ts[0]? = some t := by rw [← Array.getElem?_toList, hts]; rfl
    obtain ⟨cs, cr, hc, hs, har⟩ := All2.cons_left.1 ha
    obtain ⟨cx, cr', hc', hx, _⟩ := All2.cons_left.1 har
    subst hc'
    have a0 : cargs[0]? = some cs := by rw [← Array.getElem?_toList, hc]; rfl
    have a1 : cargs[1]? = some cx := by rw [← Array.getElem?_toList, hc]; rfl
    split
    · rename_i h1 hd
      exact (deleteA_rel hr t0 a0 a1 hs hx hd).rr
    · trivial
  · rename_i t tr x hts
    have t0 : ts[0]? = some t := by rw [← Array.getElem?_toList, hts]; rfl
    obtain ⟨cs, cr, hc, hs, har⟩ := All2.cons_left.1 ha
    have a0 : cargs[0]? = some cs := by rw [← Array.getElem?_toList, hc]; rfl
    split
    · rename_i h1 hd
      exact (clearA_rel hr t0 a0 hs hd).rr
    · trivial
  · rename_i k x k' y
    obtain ⟨cs, cr, hc, hs, har⟩ := All2.cons_left.1 ha
    obtain ⟨cx, cr', hc', hx, hnil⟩ := All2.cons_left.1 har
    rw [All2.nil_left] at hnil; subst hnil; subst hc'
    simp only [VR_int] at hs hx; subst hs; subst hx
    have := (max_rel (P := P) (w := w) (ts := ts) (ty := ty) hc).1
    refine (Pu.vok hr ⟨_, this, ?_⟩).rr
    rw [VR_int]
    cases Int.decLt x y with
    | isTrue q => simp [q]
    | isFalse q => simp [q]
  · rename_i k x k' y
    obtain ⟨cs, cr, hc, hs, har⟩ := All2.cons_left.1 ha
    obtain ⟨cx, cr', hc', hx, hnil⟩ := All2.cons_left.1 har
    rw [All2.nil_left] at hnil; subst hnil; subst hc'
    simp only [VR_int] at hs hx; subst hs; subst hx
    have := (max_rel (P := P) (w := w) (ts := ts) (ty := ty) hc).2
    refine (Pu.vok hr ⟨_, this, ?_⟩).rr
    rw [VR_int]
    cases Int.decLt y x with
    | isTrue q => simp [q]
    | isFalse q => simp [q]
  · rename_i k x k' y k'' z
    obtain ⟨cs, cr, hc, hs, har⟩ := All2.cons_left.1 ha
    obtain ⟨cx, cr', hc', hx, har'⟩ := All2.cons_left.1 har
    obtain ⟨cz, cr'', hc'', hz, hnil⟩ := All2.cons_left.1 har'
    rw [All2.nil_left] at hnil; subst hnil; subst hc''; subst hc'
    simp only [VR_int] at hs hx hz; subst hs; subst hx; subst hz
    refine (Pu.vok hr (m := Builtin.min_ ts ty cargs) ⟨.int k (minI (minI x y) z), ?_, VR_int.2 rfl⟩).rr
    have e : ∀ a b : Int, minI a b = if b < a then b else a := fun a b => by
      unfold minI
      cases Int.decLt b a with
      | isTrue q => simp [q]
      | isFalse q => simp [q]
    simp only [Builtin.min_, hc, List.foldlM_cons, List.foldlM_nil, Builtin.min2, Sem.run_bind, Sem.run_pure, Result.andThen_ok, e]
  · exact ⟨rfl, hr⟩
  · rename_i t v
    obtain ⟨cs, cr, hc, hs, hnil⟩ := All2.cons_left.1 ha
    rw [All2.nil_left] at hnil; subst hnil
    have hs' := hs
    simp only [VR_iface] at hs; obtain ⟨y, rfl, hy⟩ := hs
    refine ⟨.iface t y, ?_, hs', hr⟩
    have a0 : cargs.getD 0 .nilIface = .iface t y := by
      rw [Array.getD_eq_getD_getElem?, ← Array.getElem?_toList, hc]; rfl
    simp only [builtin, Sem.run_bind, a0, Instr.panic, run_goPanic, Result.andThen_halt]
  · rename_i x
    obtain ⟨cx, cr, hc, hx, hn⟩ := All2.cons_left.1 ha
    have := All2.nil_left.1 hn; subst this
    have hca : cargs = #[cx] := by cases cargs; simp_all
    subst hca
    cases hs : sliceDataA x with
    | none => trivial
    | some v => exact (Pu.vok hr (sliceDataA_rel hx hs)).rr
  · rename_i pt tr p n hts
    have t0 : ts[0]? = some pt := by rw [← Array.getElem?_toList, hts]; rfl
    obtain ⟨cp, cr, hc, hp, har⟩ := All2.cons_left.1 ha
    obtain ⟨ck, cr', hc', hk, hn⟩ := All2.cons_left.1 har
    have := All2.nil_left.1 hn; subst this
    subst hc'
    simp only [VR_int] at hk; subst hk
    have hca : cargs = #[cp, .int .i64 (Int.ofNat n)] := by cases cargs; simp_all
    subst hca
    exact vals_rr shape_unsafeStr fun v h' hv => unsafeStrA_rel hr t0 hp hv
  · trivial
theorem sureAddr_run {a : Addr} : (Instr.sureAddr (.pointer (some a))).run P w = .ok a w := rfl
theorem nilCheck_rel {v : AV} {c : Value} (n1 : v ≠ .nilptr) (n2 : v ≠ .nilIface) (n3 : v ≠ .nilFunc) (hc : VR φ v c) {x : Operand} (hx : ev tmps x = c) {dst : Option Tmp} {ty : TypeId} {pos : String} {after : Array Edge} {guard : Option (Nat × Bool)} :
    (execOp (ev tmps) { dst, op := .nilCheck x, type := ty, pos, after, guard }).run P w = .ok (.value c) w := by
  simp only [execOp, hx]
  cases v with
  | nilptr => exact absurd rfl n1
  | nilIface => exact absurd rfl n2
  | nilFunc => exact absurd rfl n3
  | slice b o len cp => obtain ⟨a, cc, rfl⟩ := VR_slice_some hc; rfl
  | bool b => simp at hc; subst hc; rfl
  | int k n => simp at hc; subst hc; rfl
  | str s => simp at hc; obtain ⟨b, rfl, _⟩ := hc; rfl
  | ptr b o => simp at hc; obtain ⟨L, _, rfl⟩ := hc; rfl
  | nilslice => simp at hc; subst hc; rfl
  | slice0 => simp at hc; obtain ⟨a, c, rfl⟩ := hc; rfl
  | nilmap => simp at hc; subst hc; rfl
  | map b => simp at hc; obtain ⟨L, _, rfl⟩ := hc; rfl
  | func f a b => simp at hc; obtain ⟨x, y, rfl, _⟩ := hc; rfl
  | yield l => simp at hc; obtain ⟨L, _, rfl⟩ := hc; rfl
  | iface t x => simp at hc; obtain ⟨y, rfl, _⟩ := hc; rfl
  | agg c => simp at hc; obtain ⟨y, rfl, _⟩ := hc; rfl
  | tuple c => simp at hc; obtain ⟨y, rfl, _⟩ := hc; rfl
theorem makeMap_rel (hr : HR N φ h w) (hN : N ≤ w.heap.size) {t k e : TypeId} (ht : P.underlying t = some (.map k e)) {r : Option Value} (hx : r = none ∨ ∃ k n, r = some (.int k n)) :
    VOk P N φ w (Instr.makeMap t r) (.map h.nx) (h.alloc (.map [] 0)) := by
  have hp := obj_push hr (o := .map [] 0) (O := .map #[] 0) (fun ψ _ => ⟨hN, #[], by simp, trivial⟩)
  refine ⟨_, .map (some w.heap.size), _, ?_, ?_, hp.2, hp.1, below_push _ hN⟩
  · rcases hx with rfl | ⟨k', n, rfl⟩
    · simp only [Instr.makeMap, Sem.run_bind, Sem.run_pure, Result.andThen_ok, run_newObj]
    · simp only [Instr.makeMap, Sem.run_bind, Sem.run_pure, Result.andThen_ok, run_newObj, run_underlying ht, asInt, asIntOf]
  · rw [VR_map]; exact ⟨_, Phi.ins_same _ _ _, rfl⟩
theorem noView_row {a : Addr} {c : Array Value} {t : TypeId} {frz : Nat × Nat} (hb : w.heap[a.block]? = some (.cells c t frz)) : (noView a).run P w = .ok () w := by
  have hsh : w.shape? a.block = some (t, c.size) := by simp [World.shape?, hb]
  simp only [noView, viewAt, Sem.run_bind, run_shape, hsh, Result.andThen_ok, Option.isSome_some, if_true, Sem.run_pure, Option.isSome_none, Bool.false_eq_true, if_false]
theorem stringish_row {a : Addr} {c : Array Value} {t : TypeId} {frz : Nat × Nat} (hb : w.heap[a.block]? = some (.cells c t frz)) : ∃ b, (stringish a).run P w = .ok b w := by
  have hsh : w.shape? a.block = some (t, c.size) := by simp [World.shape?, hb]
  simp only [stringish, Sem.run_bind, run_frozen, Result.andThen_ok, run_shape, hsh]
  cases w.frozen? a with
  | true => exact ⟨true, by simp⟩
  | false => exact ⟨w.frozen? { block := a.block, off := c.size }, by simp [hsh]⟩
theorem stringish_not {a : Addr} {c : Array Value} {t : TypeId} (hb : w.heap[a.block]? = some (.cells c t (0, 0))) : (stringish a).run P w = .ok false w := by
  have hsh : w.shape? a.block = some (t, c.size) := by simp [World.shape?, hb]
  have h1 : ∀ n sp, w.frozen? ⟨a.block, n, sp⟩ = false := fun n sp => by simp [World.frozen?, hb]
  have h2 : w.frozen? a = false := h1 a.off a.spot
  simp only [stringish, Sem.run_bind, run_frozen, Result.andThen_ok, run_shape, hsh, h2, h1, Bool.false_eq_true, if_false, Sem.run_pure]
theorem sameAddr_apart {a b : Addr} {c c' : Array Value} {t t' : TypeId} {frz : Nat × Nat} (hab : a.block ≠ b.block) (ha : w.heap[a.block]? = some (.cells c t (0, 0))) (hb : w.heap[b.block]? = some (.cells c' t' frz))
    (hc : 0 < c.size) (hc' : 0 < c'.size) : (sameAddr a b).run P w = .ok false w := by
  have hsh : w.shape? a.block = some (t, c.size) := by simp [World.shape?, ha]
  have hsh' : w.shape? b.block = some (t', c'.size) := by simp [World.shape?, hb]
  have h2 : w.frozen? a = false := by simp [World.frozen?, ha]
  obtain ⟨sb, hsb⟩ := stringish_row (P := P) (w := w) (a := b) hb
  have hsa := stringish_not (P := P) (w := w) (a := a) ha
  obtain ⟨k, hk⟩ : ∃ k, c.size = k + 1 := ⟨c.size - 1, by omega⟩
  obtain ⟨k', hk'⟩ : ∃ k, c'.size = k + 1 := ⟨c'.size - 1, by omega⟩
  rw [hk] at hsh
  rw [hk'] at hsh'
  simp only [sameAddr, beq_eq_false_iff_ne.2 hab, Bool.false_eq_true, if_false, Sem.run_bind, run_frozen, Result.andThen_ok, h2, Bool.false_and, noView_row ha, noView_row hb, mayBeOne, hsa, hsb, run_shape, hsh, hsh', Sem.run_pure, Bool.and_false, Bool.or_false]
theorem equalIn_apart (D : Nat) {t e : TypeId} {a b : Addr} (hu : P.underlying t = some (.pointer e)) (hok : okT P e = true) (h2 : P.cellsOf e ≠ 0) (hs : (sameAddr a b).run P w = .ok false w) :
    (Op.equalIn (D + 1) t (.pointer (some a)) (.pointer (some b))).run P w = .ok false w := by
  simp only [Op.equalIn, Sem.run_bind, run_underlying hu, Result.andThen_ok, sizeOf_run e hok, ne_eq, h2, not_false_eq_true, if_true, hs]
theorem apart_rel (hr : HR N φ h w) {op : BinOp} {t : TypeId} {x y : Operand} {a b v : AV} {ca cb : Value} (ha : VR φ a ca) (hb : VR φ b cb) (hap : apartA h a b = true) (hv : apartV P op t h = .val v h') :
    VOk P N φ w (do eqGuard op t x y ca cb; binOp op t ca cb) v h' := by
  unfold apartA at hap
  split at hap
  · rename_i p o
    split at hap
    · rename_i q r
      simp only [VR_ptr] at ha hb
      obtain ⟨L, hL, rfl⟩ := ha
      obtain ⟨M, hM, rfl⟩ := hb
      split at hap
      · cases hap
      · rename_i hne
        have hne := Nat.ne_of_beq_eq_false hne
        split at hap
        · rename_i n cs k m cs' k' hp hq
          simp only [Bool.and_eq_true] at hap
          obtain ⟨⟨a1, a2⟩, a3⟩ := hap
          have a1 : o < n := Nat.le_of_ble_eq_true a1
          have a2 : r < m := Nat.le_of_ble_eq_true a2
          have a3 := Nat.eq_of_beq_eq_true a3
          obtain ⟨c, t1, frz, g1, g2, g3, g4, g5⟩ := hr.get hp hL
          obtain ⟨c', t2, frz', j1, j2, j3, j4, j5⟩ := hr.get hq hM
          have hf := g5.2.2.2 a3 rfl
          subst hf
          have hB : L.B ≠ M.B := fun e => hne (hr.inj p _ q _ L M hp hq hL hM e)
          have hs := sameAddr_apart (P := P) (w := w) (a := ⟨L.B, L.base + o, none⟩) (b := ⟨M.B, M.base + r, none⟩) hB g1 j1 (by omega) (by omega)
          unfold apartV at hv
          split at hv
          · rename_i e hu
            obtain ⟨e1, e2⟩ := binOp_eql_any t (.pointer (some ⟨L.B, L.base + o, none⟩)) (.pointer (some ⟨M.B, M.base + r, none⟩)) (fun ⟨_, _, _, _, x, _⟩ => by cases x) (fun ⟨_, _, x, _⟩ => by cases x) (fun ⟨_, _, x⟩ => by cases x) (fun ⟨_, _, _, x⟩ => by cases x)
            have heq : ∀ (hok : (okT P e && Nat.ble 1 (P.cellsOf e)) = true), (Op.equal t (.pointer (some ⟨L.B, L.base + o, none⟩)) (.pointer (some ⟨M.B, M.base + r, none⟩))).run P w = .ok false w := fun hok => by
              simp only [Bool.and_eq_true] at hok
              have h1 := Nat.le_of_ble_eq_true hok.2
              have h2 : P.cellsOf e ≠ 0 := by omega
              exact equalIn_apart 9999 hu hok.1 h2 hs
            split at hv
            · rename_i hok
              cases hv
              refine Pu.vok hr ⟨.bool false, ?_, VR_bool.2 rfl⟩
              have hg : eqGuard .eql t x y (.pointer (some ⟨L.B, L.base + o, none⟩)) (.pointer (some ⟨M.B, M.base + r, none⟩)) = pure () := rfl
              simp only [Sem.run_bind, hg, Sem.run_pure, Result.andThen_ok, e1, heq hok]
            · rename_i hok
              cases hv
              refine Pu.vok hr ⟨.bool true, ?_, VR_bool.2 rfl⟩
              have hg : eqGuard .neq t x y (.pointer (some ⟨L.B, L.base + o, none⟩)) (.pointer (some ⟨M.B, M.base + r, none⟩)) = pure () := rfl
              simp only [Sem.run_bind, hg, Sem.run_pure, Result.andThen_ok, e2, heq hok, Bool.not_false]
            · cases hv
          · cases hv
        · cases hap
    · cases hap
  · cases hap
theorem shape_apart {op : BinOp} {t : TypeId} {h : H} : (∃ v h', apartV P op t h = .val v h') ∨ apartV P op t h = .fail := by
  unfold apartV
  repeat' (first | (exact .inr rfl) | (exact .inl ⟨_, _, rfl⟩) | split | simp only [])
theorem execA_rel (hr : HR N φ h w) (hN : N ≤ w.heap.size) (tr : TR φ nt tm tmps) (o : Oper) : RR P N φ w ((execOp (ev tmps) o).run P w) (execA P tm h o.op) := by
  obtain ⟨dst, op, ty, pos, after, guard⟩ := o
  cases op with
  | move x => exact optV_rr hr (m := pure (ev tmps _)) fun v hv => ⟨_, rfl, evalA_rel tr hv⟩
  | assign x => exact optV_rr hr (m := pure (ev tmps _)) fun v hv => ⟨_, rfl, evalA_rel tr hv⟩
  | pick c a b =>
    simp only [execA]
    split
    · rename_i hc
      have := evalA_rel tr hc; simp only [VR_bool] at this
      simp only [execOp, this, asBool, Sem.run_bind, Sem.run_pure, Result.andThen_ok, if_true]
      exact optV_rr hr (m := pure (ev tmps _)) fun v hv => ⟨_, rfl, evalA_rel tr hv⟩
    · rename_i hc
      have := evalA_rel tr hc; simp only [VR_bool] at this
      simp only [execOp, this, asBool, Sem.run_bind, Sem.run_pure, Result.andThen_ok, Bool.false_eq_true, if_false]
      exact optV_rr hr (m := pure (ev tmps _)) fun v hv => ⟨_, rfl, evalA_rel tr hv⟩
    · trivial
  | alloc t =>
    simp only [execA]
    split
    · rename_i z hz; exact (allocOp_rel hr hN hz).rr
    · trivial
  | box t x =>
    simp only [execA]
    split
    · rename_i v hv
      split
      · rename_i ho; exact (boxOp_rel hr hN (evalA_rel tr hv) ho).rr
      · trivial
    · trivial
  | build t parts =>
    simp only [execA]
    split
    · rename_i l hl
      have := evalP_rel tr hl
      refine optV_rr hr fun v hv => buildA_rel hv ?_
      rw [Array.toList_map]; exact this
    · trivial
  | buildSlice t len parts =>
    simp only [execA]
    split
    · rename_i l hl
      have := evalP_rel tr hl
      refine vals_rr shape_buildSlice fun v h' hv => buildSliceA_rel hr hN hv ?_
      rw [Array.toList_map]; exact this
    · trivial
  | load t x =>
    simp only [execA]
    split
    · rename_i b o ht hx
      have := evalG_rel tr hr hx
      simp only [VR_ptr] at this; obtain ⟨L, hL, he⟩ := this
      refine optV_rr hr fun v hv => ?_
      obtain ⟨L', hL', hp⟩ := loadV_rel (P := P) hr hL ht hv
      rw [hL] at hL'; cases hL'
      obtain ⟨cv, h1, h2⟩ := hp
      exact ⟨cv, by simp only [Instr.loadAt, he, Sem.run_bind, sureAddr_run, Result.andThen_ok, h1], h2⟩
    · trivial
  | store t x y =>
    simp only [execA]
    split
    · rename_i b o v ht hx hy
      have := evalA_rel tr hx
      simp only [VR_ptr] at this; obtain ⟨L, hL, he⟩ := this
      refine optH_rr fun h' hv => ?_
      obtain ⟨L', hL', hp, _⟩ := storeV_rel (P := P) hr hL ht (evalA_rel tr hy) hv
      rw [hL] at hL'; cases hL'
      obtain ⟨φ', w', h1, h2⟩ := hp
      exact ⟨φ', w', by simp only [Instr.storeAt, he, Sem.run_bind, sureAddr_run, Result.andThen_ok, h1], h2⟩
    · trivial
  | nilCheck x =>
    simp only [execA]
    split
    · trivial
    · trivial
    · trivial
    · rename_i v n1 n2 n3 hv
      have hx := evalA_rel tr hv
      exact ⟨φ, _, w, nilCheck_rel (fun e => n1 e) (fun e => n2 e) (fun e => n3 e) hx rfl, hx, φ.le_refl, hr, Below.refl _ _⟩
    · trivial
  | binOp op t x y ty =>
    simp only [execA]
    split
    · rename_i a b ha hb
      split
      · rename_i hap
        exact vals_rr shape_apart fun v h' hv => apart_rel hr (evalA_rel tr ha) (evalA_rel tr hb) hap hv
      · exact optV_rr hr fun v hv => binA_rel hv (evalA_rel tr ha) (evalA_rel tr hb)
    · trivial
  | unOp op t x =>
    simp only [execA]
    split
    · rename_i v hv; exact optV_rr hr fun u hu => unA_rel hu (evalA_rel tr hv)
    · trivial
  | convert s d x =>
    simp only [execA]
    split
    · rename_i v hv
      split
      · rename_i t0 hs hd; exact vals_rr shape_toUnsafe fun u h' hu => toUnsafeA_rel hr hs hd (evalA_rel tr hv) hu
      · rename_i u0 hs hd; exact vals_rr shape_fromUnsafe fun u h' hu => fromUnsafeA_rel hr hs hd (evalA_rel tr hv) hu
      · exact vals_rr shape_convert fun u h' hu => convertA_rel hr hN (evalA_rel tr hv) hu
    · trivial
  | makeInterface t x =>
    simp only [execA]
    split
    · trivial
    · rename_i d v hne hd hv
      have hx := evalA_rel tr hv
      refine (Pu.vok hr ⟨.iface t (ev tmps x), ?_, VR_iface.2 ⟨_, rfl, hx⟩⟩).rr
      simp only [Instr.makeInterface, Sem.run_bind, run_underlying hd, Result.andThen_ok]
      cases d <;> first | rfl | exact absurd rfl (hne _)
    · trivial
  | makeFunc fn first cap =>
    cases fn with
    | func f =>
      simp only [execA]
      split
      · rename_i a b ha hb
        refine (Pu.vok hr ⟨_, rfl, ?_⟩).rr
        rw [VR_func]
        exact ⟨_, _, rfl, by rw [Array.toList_map]; exact evalsA_rel tr ha, by rw [Array.toList_map]; exact evalsA_rel tr hb⟩
      · trivial
    | _ => trivial
  | makeMap t r =>
    simp only [execA]
    split
    · rename_i ht hr'
      have := evalO_rel tr hr'
      exact (makeMap_rel hr hN ht (.inl this)).rr
    · rename_i ht hr'
      obtain ⟨c, hc, hv⟩ := evalO_rel tr hr'
      simp only [VR_int] at hv; subst hv
      exact (makeMap_rel hr hN ht (.inr ⟨_, _, hc⟩)).rr
    · trivial
  | makeSlice t l c =>
    simp only [execA]
    split
    · rename_i l c hl hc
      exact vals_rr shape_makeSlice fun v h' hv => makeSliceA_rel hr hN hv (evalA_rel tr hl) (evalA_rel tr hc)
    · trivial
  | slice t x lo hi mx =>
    simp only [execA]
    split
    · rename_i x lo hi mx h1 h2 h3 h4
      exact optV_rr hr fun v hv => sliceA_rel (evalA_rel tr h1) hv (evalO_rel tr h2) (evalO_rel tr h3) (evalO_rel tr h4)
    · trivial
  | fieldAddr t x i =>
    simp only [execA]
    split
    · rename_i v hv; exact optV_rr hr fun u hu => fieldAddrA_rel (evalG_rel tr hr hv) hu
    · trivial
  | field t x i =>
    simp only [execA]
    split
    · rename_i v hv; exact optV_rr hr fun u hu => fieldA_rel (evalA_rel tr hv) hu
    · trivial
  | indexAddr t x i =>
    simp only [execA]
    split
    · rename_i a b ha hb; exact optV_rr hr fun u hu => indexAddrA_rel (evalG_rel tr hr ha) (evalA_rel tr hb) hu
    · trivial
  | index t x i =>
    simp only [execA]
    split
    · rename_i a b ha hb; exact optV_rr hr fun u hu => indexA_rel (evalA_rel tr ha) (evalA_rel tr hb) hu
    · trivial
  | lookup t x i ok =>
    simp only [execA]
    split
    · rename_i a b ha hb; exact optV_rr hr fun u hu => lookupA_rel hr (evalA_rel tr ha) (evalA_rel tr hb) hu
    · trivial
  | mapUpdate t m k x =>
    simp only [execA]
    split
    · rename_i a b c ha hb hc; exact optH_rr fun h' hv => updateA_rel hr (evalA_rel tr ha) (evalA_rel tr hb) (evalA_rel tr hc) hv
    · trivial
  | insert t m k x =>
    simp only [execA]
    split
    · rename_i a b c ha hb hc; exact optH_rr fun h' hv => updateA_rel hr (evalA_rel tr ha) (evalA_rel tr hb) (evalA_rel tr hc) hv
    · trivial
  | mapEntry t m k =>
    simp only [execA]
    split
    · rename_i a b ha hb; exact vals_rr shape_mapEntry fun v h' hv => mapEntryA_rel hr (evalA_rel tr ha) (evalA_rel tr hb) hv
    · trivial
  | entryStore t m s x =>
    simp only [execA]
    split
    · rename_i a b c ha hb hc; exact optH_rr fun h' hv => entryStoreA_rel hr (evalA_rel tr ha) (evalA_rel tr hb) (evalA_rel tr hc) hv
    · trivial
  | range t x =>
    simp only [execA]
    split
    · rename_i v hv; exact vals_rr shape_range fun u h' hu => rangeA_rel hr hN (evalA_rel tr hv) hu
    · trivial
  | next x s =>
    simp only [execA]
    split
    · rename_i v hv; exact vals_rr shape_next fun u h' hu => nextA_rel hr (evalA_rel tr hv) hu
    · trivial
  | entry x =>
    simp only [execA]
    split
    · rename_i v hv; exact optV_rr hr fun u hu => entryA_rel hr (evalA_rel tr hv) hu
    · trivial
  | extract x i =>
    simp only [execA]
    split
    · rename_i vs hv
      have := evalA_rel tr hv
      simp only [VR_tuple] at this; obtain ⟨a, he, ha⟩ := this
      refine optV_rr hr fun v hvi => ?_
      obtain ⟨c, hc, hR⟩ := ha.get hvi
      rw [Array.getElem?_toList] at hc
      exact ⟨c, by simp only [Instr.extract, he, hc, Sem.run_pure], hR⟩
    · trivial
  | call c =>
    obtain ⟨callee, args, argTypes⟩ := c
    simp only [execA]
    split
    · trivial
    · rename_i vs hvs
      have hargs : All2 (VR φ) vs (args.map (ev tmps)).toList := by rw [Array.toList_map]; exact evalsA_rel tr hvs
      cases callee with
      | value f =>
        simp only
        split
        · rename_i f' hf
          have := callV_rel (P := P) hr (evalA_rel tr hf) hargs
          simpa only [execOp, resolve, Sem.run_bind] using this
        · trivial
      | builtin b =>
        simp only [execOp, resolve, Sem.run_bind, Sem.run_pure, Result.andThen_ok, invoke]
        exact builtinA_rel (P := P) hr hN hargs
      | invoke r m => trivial
  | defer c =>
    obtain ⟨callee, args, argTypes⟩ := c
    cases callee with
    | value f =>
      simp only [execA]
      split
      · rename_i g first cap vs hf hvs
        split
        · rename_i he
          have hargs : All2 (VR φ) vs (args.map (ev tmps)).toList := by rw [Array.toList_map]; exact evalsA_rel tr hvs
          have := evalA_rel tr hf
          simp only [VR_func] at this; obtain ⟨a, b, hfe, h1, h2⟩ := this
          refine ⟨{ target := .fn (.func g) b, args := a ++ args.map (ev tmps) }, ?_, ⟨_, _, rfl, by rw [Array.toList_append]; exact h1.append hargs, h2⟩, hr⟩
          simp only [execOp, resolve, hfe, Deferred.ofValue, Sem.run_bind, Sem.run_pure, Result.andThen_ok]
        · trivial
      · trivial
    | builtin b => trivial
    | invoke r m => trivial
  | panic x =>
    simp only [execA]
    split
    · rename_i t v hv
      have hx := evalA_rel tr hv
      have hx' := hx
      simp only [VR_iface] at hx; obtain ⟨y, he, hy⟩ := hx
      refine ⟨ev tmps x, ?_, hx', hr⟩
      simp only [execOp, he, Instr.panic, Sem.run_bind, run_goPanic, Result.andThen_halt]
    · trivial
  | _ => trivial
end
end Go.AX

namespace Go.AX
open Go.RowKit
theorem st {P : Program} {fr fr' : Frame} {cs cs' : List Frame} {w w' : World}
    (h : (stepG P true { frame := fr, callers := cs, status := .running, dying := none } w).bare = .go { frame := fr', callers := cs', status := .running, dying := none } w') :
    Steps P (lone fr cs w) (lone fr' cs' w') := .one (step_lone_go h)
section
variable {P : Program} {fn : FuncId} {tmps : Array Value} {k : List Item} {ds : List Deferred} {kd : CallKind} {ro : Option Nat} {cs : List Frame} {w : World}
theorem m_skip : Steps P (lone ⟨fn, tmps, .code .skip :: k, ds, .run, kd, ro⟩ cs w) (lone ⟨fn, tmps, k, ds, .run, kd, ro⟩ cs w) := st (by simp [stepG, stepG.exec])
theorem m_label {l : Nat} : Steps P (lone ⟨fn, tmps, .code (.label l) :: k, ds, .run, kd, ro⟩ cs w) (lone ⟨fn, tmps, k, ds, .run, kd, ro⟩ cs w) := st (by simp [stepG, stepG.exec])
theorem m_inBlock {l : Nat} : Steps P (lone ⟨fn, tmps, .inBlock l :: k, ds, .run, kd, ro⟩ cs w) (lone ⟨fn, tmps, k, ds, .run, kd, ro⟩ cs w) := st (by simp [stepG, stepG.exec])
theorem m_inScope {c : Code} : Steps P (lone ⟨fn, tmps, .inScope c :: k, ds, .run, kd, ro⟩ cs w) (lone ⟨fn, tmps, k, ds, .run, kd, ro⟩ cs w) := st (by simp [stepG, stepG.exec])
theorem m_seq {a b : Code} : Steps P (lone ⟨fn, tmps, .code (.seq a b) :: k, ds, .run, kd, ro⟩ cs w) (lone ⟨fn, tmps, .code a :: .code b :: k, ds, .run, kd, ro⟩ cs w) := st (by simp [stepG, stepG.exec])
theorem m_cond {c : Operand} {a b : Code} {t : Bool} (h : ev tmps c = .bool t) : Steps P (lone ⟨fn, tmps, .code (.cond c a b) :: k, ds, .run, kd, ro⟩ cs w) (lone ⟨fn, tmps, .code (if t then a else b) :: k, ds, .run, kd, ro⟩ cs w) :=
  st (by simp [stepG, stepG.exec, Frame.eval_ev, h])
theorem m_block {l : Nat} {c : Code} : Steps P (lone ⟨fn, tmps, .code (.block l c) :: k, ds, .run, kd, ro⟩ cs w) (lone ⟨fn, tmps, .code c :: .inBlock l :: k, ds, .run, kd, ro⟩ cs w) := st (by simp [stepG, stepG.exec])
theorem m_loop {c : Code} : Steps P (lone ⟨fn, tmps, .code (.loop c) :: k, ds, .run, kd, ro⟩ cs w) (lone ⟨fn, tmps, .code c :: .inLoop c :: k, ds, .run, kd, ro⟩ cs w) := st (by simp [stepG, stepG.exec])
theorem m_inLoop {c : Code} : Steps P (lone ⟨fn, tmps, .inLoop c :: k, ds, .run, kd, ro⟩ cs w) (lone ⟨fn, tmps, .code c :: .inLoop c :: k, ds, .run, kd, ro⟩ cs w) := st (by simp [stepG, stepG.exec])
theorem m_scope {c : Code} : Steps P (lone ⟨fn, tmps, .code (.scope c) :: k, ds, .run, kd, ro⟩ cs w) (lone ⟨fn, tmps, .code c :: .inScope c :: k, ds, .run, kd, ro⟩ cs w) := st (by simp [stepG, stepG.exec])
theorem m_exit {l : Nat} {k' : List Item} (h : exitTo l k = some k') : Steps P (lone ⟨fn, tmps, .code (.exit l) :: k, ds, .run, kd, ro⟩ cs w) (lone ⟨fn, tmps, k', ds, .run, kd, ro⟩ cs w) := st (by simp [stepG, stepG.exec, h])
theorem m_goto {l : Nat} {k' : List Item} (h : gotoIn l k = some k') : Steps P (lone ⟨fn, tmps, .code (.goto l) :: k, ds, .run, kd, ro⟩ cs w) (lone ⟨fn, tmps, k', ds, .run, kd, ro⟩ cs w) := st (by simp [stepG, stepG.exec, h])
theorem m_region {id : Nat} {ops : Array Oper} : Steps P (lone ⟨fn, tmps, .code (.region id ops false) :: k, ds, .run, kd, ro⟩ cs w) (lone ⟨fn, tmps, .inRegion ops (List.range ops.size) :: k, ds, .run, kd, ro⟩ cs w) := st (by simp [stepG, stepG.exec])
theorem m_regionEnd {ops : Array Oper} : Steps P (lone ⟨fn, tmps, .inRegion ops [] :: k, ds, .run, kd, ro⟩ cs w) (lone ⟨fn, tmps, k, ds, .run, kd, ro⟩ cs w) := st (by simp [stepG, stepG.exec])
theorem m_end : Steps P (lone ⟨fn, tmps, [], ds, .run, kd, none⟩ cs w) (lone ⟨fn, tmps, [], ds, .returning, kd, none⟩ cs w) := st (by simp [stepG, stepG.exec])
theorem m_ret : Steps P (lone ⟨fn, tmps, .code .ret :: k, ds, .run, kd, none⟩ cs w) (lone ⟨fn, tmps, .code .ret :: k, ds, .returning, kd, none⟩ cs w) := st (by simp [stepG, stepG.exec])
theorem m_opSkip {ops : Array Oper} {i : Nat} {rest : List Nat} (h : ((ops[i]?).map (Region.wanted · (yielded ops tmps))).getD false = false) :
    Steps P (lone ⟨fn, tmps, .inRegion ops (i :: rest) :: k, ds, .run, kd, ro⟩ cs w) (lone ((⟨fn, tmps, .inRegion ops (i :: rest) :: k, ds, .run, kd, ro⟩ : Frame).finish undef) cs w) :=
  st (by simp [stepG, stepG.exec, h])
theorem m_op {ops : Array Oper} {i : Nat} {rest : List Nat} {o : Oper} (ho : ops[i]? = some o) (hw : Region.wanted o (yielded ops tmps) = true) (hd : ro = none ∨ ∀ c, o.op ≠ .defer c) :
    (stepG P true { frame := ⟨fn, tmps, .inRegion ops (i :: rest) :: k, ds, .run, kd, ro⟩, callers := cs, status := .running, dying := none } w) =
      stepG.apply P true ⟨fn, tmps, .inRegion ops (i :: rest) :: k, ds, .run, kd, ro⟩ cs none (execOp (ev tmps) o) w := by
  have he : (⟨fn, tmps, .inRegion ops (i :: rest) :: k, ds, .run, kd, ro⟩ : Frame).eval = ev tmps := Frame.eval_ev _
  simp only [stepG, stepG.exec, ho, Option.map_some, Option.getD_some, hw, if_true, stepG.oper, Frame.oper?, he]
  rcases hd with rfl | hd
  · rfl
  · cases ro with
    | none => rfl
    | some l => cases hop : o.op <;> first | rfl | exact absurd hop (hd _)
theorem m_value {ops : Array Oper} {i : Nat} {rest : List Nat} {o : Oper} (ho : ops[i]? = some o) (hw : Region.wanted o (yielded ops tmps) = true) (hd : ro = none ∨ ∀ c, o.op ≠ .defer c) {v : Value} {w' : World}
    (h : (execOp (ev tmps) o).run P w = .ok (.value v) w') :
    Steps P (lone ⟨fn, tmps, .inRegion ops (i :: rest) :: k, ds, .run, kd, ro⟩ cs w) (lone ((⟨fn, tmps, .inRegion ops (i :: rest) :: k, ds, .run, kd, ro⟩ : Frame).finish v) cs w') :=
  st (by rw [m_op ho hw hd]; simp [stepG.apply, h])
theorem m_skipped {ops : Array Oper} {i : Nat} {rest : List Nat} {o : Oper} (ho : ops[i]? = some o) (hw : Region.wanted o (yielded ops tmps) = true) (hd : ro = none ∨ ∀ c, o.op ≠ .defer c) {w' : World}
    (h : (execOp (ev tmps) o).run P w = .ok .skip w') :
    Steps P (lone ⟨fn, tmps, .inRegion ops (i :: rest) :: k, ds, .run, kd, ro⟩ cs w) (lone ((⟨fn, tmps, .inRegion ops (i :: rest) :: k, ds, .run, kd, ro⟩ : Frame).finish undef) cs w') :=
  st (by rw [m_op ho hw hd]; simp [stepG.apply, h])
theorem m_enter {ops : Array Oper} {i : Nat} {rest : List Nat} {o : Oper} (ho : ops[i]? = some o) (hw : Region.wanted o (yielded ops tmps) = true) (hd : ro = none ∨ ∀ c, o.op ≠ .defer c) {f : FuncId} {args : Array Value} {w' : World}
    (h : (execOp (ev tmps) o).run P w = .ok (.enter f args) w') :
    Steps P (lone ⟨fn, tmps, .inRegion ops (i :: rest) :: k, ds, .run, kd, ro⟩ cs w) (lone (Frame.enter P f args .normal) (⟨fn, tmps, .inRegion ops (i :: rest) :: k, ds, .run, kd, ro⟩ :: cs) w') :=
  st (by rw [m_op ho hw hd]; simp [stepG.apply, h])
theorem m_round {ops : Array Oper} {i : Nat} {rest : List Nat} {o : Oper} (ho : ops[i]? = some o) (hw : Region.wanted o (yielded ops tmps) = true) (hd : ro = none ∨ ∀ c, o.op ≠ .defer c) {l f : Nat} {t : Array Value} {a b : Code} {w' : World}
    (h : (execOp (ev tmps) o).run P w = .ok (.round l f t a b) w') :
    Steps P (lone ⟨fn, tmps, .inRegion ops (i :: rest) :: k, ds, .run, kd, ro⟩ cs w) (lone (Frame.round l f t a b .normal) (⟨fn, tmps, .inRegion ops (i :: rest) :: k, ds, .run, kd, ro⟩ :: cs) w') :=
  st (by rw [m_op ho hw hd]; simp [stepG.apply, h])
theorem m_defer {ops : Array Oper} {i : Nat} {rest : List Nat} {o : Oper} (ho : ops[i]? = some o) (hw : Region.wanted o (yielded ops tmps) = true) {d : Deferred} {w' : World}
    (h : (execOp (ev tmps) o).run P w = .ok (.defer d) w') :
    Steps P (lone ⟨fn, tmps, .inRegion ops (i :: rest) :: k, ds, .run, kd, none⟩ cs w) (lone ((⟨fn, tmps, .inRegion ops (i :: rest) :: k, d :: ds, .run, kd, none⟩ : Frame).finish undef) cs w') :=
  st (by rw [m_op ho hw (.inl rfl)]; simp [stepG.apply, h])
theorem m_recover {ops : Array Oper} {i : Nat} {rest : List Nat} {o : Oper} (ho : ops[i]? = some o) (hw : Region.wanted o (yielded ops tmps) = true) {w' : World}
    (h : (execOp (ev tmps) o).run P w = .ok .recover w') :
    Steps P (lone ⟨fn, tmps, .inRegion ops (i :: rest) :: k, ds, .run, kd, none⟩ cs w)
      (match tryRecover (⟨fn, tmps, .inRegion ops (i :: rest) :: k, ds, .run, kd, none⟩ : Frame) cs with
        | some (v, cs') => lone ((⟨fn, tmps, .inRegion ops (i :: rest) :: k, ds, .run, kd, none⟩ : Frame).finish v) cs' w'
        | none => lone ((⟨fn, tmps, .inRegion ops (i :: rest) :: k, ds, .run, kd, none⟩ : Frame).finish .nilIface) cs w') := by
  cases ht : tryRecover (⟨fn, tmps, .inRegion ops (i :: rest) :: k, ds, .run, kd, none⟩ : Frame) cs with
  | none => exact st (by rw [m_op ho hw (.inl rfl)]; simp [stepG.apply, h, ht])
  | some x => obtain ⟨v, cs'⟩ := x; exact st (by rw [m_op ho hw (.inl rfl)]; simp [stepG.apply, h, ht])
theorem m_panic {ops : Array Oper} {i : Nat} {rest : List Nat} {o : Oper} (ho : ops[i]? = some o) (hw : Region.wanted o (yielded ops tmps) = true) (hd : ro = none ∨ ∀ c, o.op ≠ .defer c) {v : Value} {w' : World}
    (h : (execOp (ev tmps) o).run P w = .halt (.panic v) w') :
    Steps P (lone ⟨fn, tmps, .inRegion ops (i :: rest) :: k, ds, .run, kd, ro⟩ cs w) (lone ((⟨fn, tmps, .inRegion ops (i :: rest) :: k, ds, .run, kd, ro⟩ : Frame).raise [{ v, recovered := false }]) cs w') :=
  st (by rw [m_op ho hw hd]; simp [stepG.apply, h])
theorem m_endRound {l : Nat} {c : Frame} {jump : Option Code} {todo : List Item} (ht : todo = [] ∧ jump = none ∨ (∃ k, todo = .code .ret :: k) ∧ jump = some .ret ∨ (∃ id k, todo = .code (.exit id) :: k ∧ exitTo id k = none ∧ jump = some (.exit id)) ∨ ∃ id k, todo = .code (.goto id) :: k ∧ gotoIn id k = none ∧ jump = some (.goto id))
    {v : Value} {w' : World} (h : (Instr.endRound l jump).run P w = .ok v w') :
    Steps P (lone ⟨fn, tmps, todo, ds, .run, .normal, some l⟩ (c :: cs) w) (lone (c.finish v) cs w') := by
  rcases ht with ⟨rfl, rfl⟩ | ⟨⟨k, rfl⟩, rfl⟩ | ⟨id, k, rfl, hk, rfl⟩ | ⟨id, k, rfl, hk, rfl⟩
  · exact st (by simp [stepG, stepG.exec, h, doReturn])
  · exact st (by simp [stepG, stepG.exec, h, doReturn])
  · exact st (by simp [stepG, stepG.exec, h, hk, doReturn])
  · exact st (by simp [stepG, stepG.exec, h, hk, doReturn])
theorem m_beginRound {l : Nat} {w' : World} (h : (Instr.beginRound l).run P w = .ok () w') :
    Steps P (lone ⟨fn, tmps, .beginRound :: k, ds, .run, kd, some l⟩ cs w) (lone ⟨fn, tmps, k, ds, .run, kd, some l⟩ cs w') :=
  st (by simp [stepG, stepG.exec, stepG.apply, h, Frame.finish])
theorem m_endRange {l : Nat} {j : Option Code} {w' : World} (h : (Instr.endLoop l).run P w = .ok j w') :
    Steps P (lone ⟨fn, tmps, .endRangeFunc l :: k, ds, .run, kd, ro⟩ cs w) (lone ⟨fn, tmps, (j.map Item.code).toList ++ k, ds, .run, kd, ro⟩ cs w') :=
  st (by simp [stepG, stepG.exec, h])
theorem m_rangeFunc {f : Operand} {ps : Array Tmp} {a b : Code} {l : Nat} {mark : List Deferred} {w' w'' : World} {g : FuncId} {args : Array Value}
    (h : (Instr.enterLoop fn tmps ps a b ro).run P w = .ok (l, mark) w')
    (h2 : ((do let d ← resolve (ev tmps) { callee := .value f, args := #[.const (.func (.yield l) #[] #[])], argTypes := #[] } 0; invoke d.target d.args) : Sem Next).run P w' = .ok (.enter g args) w'') :
    Steps P (lone ⟨fn, tmps, .code (.rangeFunc f ps a b) :: k, ds, .run, kd, ro⟩ cs w) (lone (Frame.enter P g args .normal) (⟨fn, tmps, .inRangeFunc l :: k, mark ++ ds, .run, kd, ro⟩ :: cs) w'') := by
  refine st ?_
  simp only [stepG, stepG.exec, h, Sem.runT_eq, GStep.bare_after]
  have he : (⟨fn, tmps, .inRangeFunc l :: k, mark ++ ds, .run, kd, ro⟩ : Frame).eval = ev tmps := Frame.eval_ev _
  simp only [he]
  simp [stepG.apply, h2]
theorem m_collected {u : FrameMode} (hu : u ≠ .run) {r : Nat} {args : Array Value} {calls : List Deferred} {todo : List Item} {w' : World} (h : (Instr.takeDeferred r).run P w = .ok calls w') :
    Steps P (lone ⟨fn, tmps, todo, { target := .collected r, args } :: ds, u, kd, ro⟩ cs w) (lone ⟨fn, tmps, todo, calls ++ ds, u, kd, ro⟩ cs w') := by
  cases u with
  | run => exact absurd rfl hu
  | returning => exact st (by simp [stepG, unwind, h])
  | panicking l => exact st (by simp [stepG, unwind, h])
theorem m_deferred {u : FrameMode} (hu : u ≠ .run) {g : Fn} {cap args : Array Value} {f : FuncId} {args' : Array Value} {todo : List Item} {w' : World} (h : (invoke (.fn g cap) args).run P w = .ok (.enter f args') w') :
    Steps P (lone ⟨fn, tmps, todo, { target := .fn g cap, args } :: ds, u, kd, ro⟩ cs w) (lone (Frame.enter P f args' .deferred) (⟨fn, tmps, todo, ds, u, kd, ro⟩ :: cs) w') := by
  cases u with
  | run => exact absurd rfl hu
  | returning => exact st (by simp [stepG, unwind, callDeferred, h])
  | panicking l => exact st (by simp [stepG, unwind, callDeferred, h])
theorem m_return {f : Func} (hf : P.funcs[fn]? = some f) {v : Value} {c : Frame} {todo : List Item} (h : (results f tmps).run P w = .ok v w) :
    Steps P (lone ⟨fn, tmps, todo, [], .returning, .normal, ro⟩ (c :: cs) w) (lone (c.finish v) cs w) :=
  st (by simp [stepG, unwind, doReturn, hf, h])
theorem m_returnD {f : Func} (hf : P.funcs[fn]? = some f) {v : Value} {c : Frame} {todo : List Item} (h : (results f tmps).run P w = .ok v w) :
    Steps P (lone ⟨fn, tmps, todo, [], .returning, .deferred, ro⟩ (c :: cs) w) (lone { c with mode := settle c.mode } cs w) := by
  refine st ?_
  simp only [stepG, unwind, doReturn, hf, Sem.runT_eq, h, GStep.bare_after, GStep.bare_go]
  unfold settle
  split <;> (try split) <;> simp_all
theorem m_raise {f : Func} (hf : P.funcs[fn]? = some f) {c : Frame} {chain : List PanicEntry} {todo : List Item} :
    Steps P (lone ⟨fn, tmps, todo, [], .panicking chain, kd, ro⟩ (c :: cs) w) (lone (c.raise chain) cs w) :=
  st (by simp [stepG, unwind, Frame.catches, hf])
end
end Go.AX


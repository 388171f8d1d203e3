/-
  AX: operations: entries of maps, walks; and all operations together.
-/
import Derived.Test.YtnhnhiieomhgfaaGreatDoorAxOps7
namespace Go.AX
open Go.RowKit

section
variable {P : Program} {N : NN} {φ : Phi} {h h' : H} {w : World}

theorem findBorn_rel {born : Int} : ∀ (es : List (AV × AV × Nat)) (ces : List MapEntry) (i j : Nat), findBorn born es i = some j → All2 (EntR φ) es ces →
    i ≤ j ∧ ces.findIdx? (fun e => (e.born : Int) == born) = some (j - i)
  | [], ces, i, j, h, he => by cases h
  | e :: es, ces, i, j, h, he => by
    obtain ⟨ce, cr, rfl, ⟨h1, h2, h3⟩, hr⟩ := All2.cons_left.1 he
    simp only [findBorn] at h
    have hb : (Int.ofNat e.2.2 == born) = ((ce.born : Int) == born) := by rw [h3]; rfl
    split at h
    · rename_i q
      cases h
      rw [hb] at q
      exact ⟨Nat.le_refl _, by rw [List.findIdx?_cons, if_pos q]; simp⟩
    · rename_i q
      rw [hb] at q
      obtain ⟨g1, g2⟩ := findBorn_rel es cr (i + 1) j h hr
      refine ⟨by omega, ?_⟩
      rw [List.findIdx?_cons, if_neg (by simp [q]), g2]
      simp; omega

theorem entryStoreA_rel (hr : HR N φ h w) {t : TypeId} {x s v : AV} {cx cs cv : Value} (hx : VR φ x cx) (hs : VR φ s cs) (hv : VR φ v cv) (hu : entryStoreA x s v h = some h') :
    UOk P N φ w (Instr.entryStore t cx cs cv) h' := by
  unfold entryStoreA at hu
  split at hu
  · rename_i r k born
    simp only [VR_map] at hx; obtain ⟨L, hL, rfl⟩ := hx
    simp only [VR_int] at hs; subst hs
    split at hu
    · rename_i es clock hb
      split at hu
      · rename_i i hf
        cases hu
        obtain ⟨hN, ces, g1, g2⟩ := hr.get hb hL
        have hne : ∀ c t f, (Obj.map ces clock) ≠ .cells c t f := fun _ _ _ => by simp
        obtain ⟨_, hf'⟩ := findBorn_rel es ces.toList 0 i hf g2
        have hf2 : ces.findIdx? (fun e => (e.born : Int) == born) = some i := by
          have e : ces = ces.toList.toArray := by simp
          rw [e, List.findIdx?_toArray]; simpa using hf'
        have hm := map_or_set hr hb hL (es' := setVal v es i) (ces' := ces.modify i fun e => { e with val := cv }) clock (by
          rw [Array.toList_modify]
          have : ∀ (es : List (AV × AV × Nat)) (ces : List MapEntry) (i : Nat), All2 (EntR φ) es ces → All2 (EntR φ) (setVal v es i) (ces.modify i fun e => { e with val := cv }) := by
            intro es
            induction es with
            | nil => intro ces i he; rw [All2.nil_left] at he; subst he; simp [setVal]
            | cons e es ih =>
              intro ces i he
              obtain ⟨ce, cr, rfl, ⟨h1, h2, h3⟩, hr⟩ := All2.cons_left.1 he
              cases i with
              | zero => exact ⟨⟨h1, hv, h3⟩, hr⟩
              | succ i => exact ⟨⟨h1, h2, h3⟩, ih cr i hr⟩
          exact this es ces.toList i g2)
        refine ⟨φ, _, ?_, φ.le_refl, hm.1, hm.2⟩
        simp only [Instr.entryStore, Sem.run_bind, getObj_run g1 hne, Result.andThen_ok, asInt, asIntOf, Sem.run_pure, hf2, setObj_run g1 hne]
      · cases hu
    · cases hu
  · cases hu

theorem obj_push (hr : HR N φ h w) {o : AObj} {O : Obj} (ho : ∀ ψ, φ.le ψ → OR ψ N ⟨w.heap.size, 0, 0⟩ { w with heap := w.heap.push O } o) :
    HR N (φ.ins h.nx ⟨w.heap.size, 0, 0⟩) (h.alloc o) { w with heap := w.heap.push O } ∧ φ.le (φ.ins h.nx ⟨w.heap.size, 0, 0⟩) :=
  hr.push O 0 0 o rfl (ho _ (Phi.le_ins _ (hr.lt _ (Nat.le_refl _))))

theorem rangeA_rel (hr : HR N φ h w) (hN : N ≤ w.heap.size) {t : TypeId} {x v : AV} {cx : Value} (hx : VR φ x cx) (hu : rangeA P t x h = .val v h') :
    VOk P N φ w (Instr.range t cx) v h' := by
  unfold rangeA at hu
  split at hu
  · rename_i s hun
    simp only [R.val.injEq] at hu; obtain ⟨rfl, rfl⟩ := hu
    simp only [VR_str] at hx; obtain ⟨b, rfl, rfl⟩ := hx
    have hp := obj_push hr (o := .strIter (bytesOf b) 0) (O := .stringIter b 0) (fun ψ _ => ⟨⟨hN, rfl⟩, b, by simp, rfl⟩)
    refine ⟨_, .pointer (some ⟨w.heap.size, 0, none⟩), _, ?_, ?_, hp.2, hp.1, below_push _ hN⟩
    · simp only [Instr.range, Sem.run_bind, run_underlying hun, Result.andThen_ok, Sem.run_pure, run_newObj]
    · rw [VR_ptr]; exact ⟨_, Phi.ins_same _ _ _, by simp⟩
  · rename_i k e hun
    simp only [R.val.injEq] at hu; obtain ⟨rfl, rfl⟩ := hu
    simp only [VR_nilmap] at hx; subst hx
    have hp := obj_push hr (o := .mapIter none 0 [] 0) (O := .mapIter none 0 #[] 0) (fun ψ _ => ⟨⟨hN, rfl⟩, none, by simp, rfl⟩)
    refine ⟨_, .pointer (some ⟨w.heap.size, 0, none⟩), _, ?_, ?_, hp.2, hp.1, below_push _ hN⟩
    · simp only [Instr.range, Sem.run_bind, run_underlying hun, Result.andThen_ok, Sem.run_pure, run_newObj]
    · rw [VR_ptr]; exact ⟨_, Phi.ins_same _ _ _, by simp⟩
  · rename_i k e m hun
    simp only [VR_map] at hx; obtain ⟨L, hL, rfl⟩ := hx
    split at hu
    · rename_i es clock hb
      simp only [R.val.injEq] at hu; obtain ⟨rfl, rfl⟩ := hu
      obtain ⟨_, ces, g1, g2⟩ := hr.get hb hL
      have hp := obj_push hr (o := .mapIter (some m) clock [] clock) (O := .mapIter (some L.B) clock #[] clock) (fun ψ hle => ⟨⟨hN, rfl⟩, some L.B, by simp, L, hle _ _ hL, rfl⟩)
      refine ⟨_, .pointer (some ⟨w.heap.size, 0, none⟩), _, ?_, ?_, hp.2, hp.1, below_push _ hN⟩
      · simp only [Instr.range, Sem.run_bind, run_underlying hun, Result.andThen_ok, getObj_run g1 (fun _ _ _ => by simp), Sem.run_pure, run_newObj]
      · rw [VR_ptr]; exact ⟨_, Phi.ins_same _ _ _, by simp⟩
    · cases hu
  · cases hu

theorem notIn_eq (x : Nat) : ∀ l : List Nat, notIn l x = !l.contains x
  | [] => rfl
  | y :: l => by
    simp only [notIn, List.contains_cons]
    cases h : Nat.beq x y
    · have := Nat.ne_of_beq_eq_false h
      simp [this, notIn_eq x l]
    · have := Nat.eq_of_beq_eq_true h
      simp [this]

theorem filter_rel (seen : List Nat) : ∀ (es : List (AV × AV × Nat)) (ces : List MapEntry), All2 (EntR φ) es ces →
    All2 (EntR φ) (es.filter fun e => notIn seen e.2.2) (ces.filter fun e => !seen.toArray.contains e.born)
  | [], ces, he => by rw [All2.nil_left] at he; subst he; simp
  | e :: es, ces, he => by
    obtain ⟨ce, cr, rfl, ⟨h1, h2, h3⟩, hr⟩ := All2.cons_left.1 he
    have ih := filter_rel seen es cr hr
    have hb : notIn seen e.2.2 = !seen.toArray.contains ce.born := by rw [notIn_eq, h3]; simp
    simp only [List.filter_cons, hb]
    cases seen.toArray.contains ce.born
    · exact ⟨⟨h1, h2, h3⟩, ih⟩
    · exact ih

theorem all_rel (last : Nat) : ∀ (es : List (AV × AV × Nat)) (ces : List MapEntry), All2 (EntR φ) es ces → (es.all fun e => Nat.ble last e.2.2) = (ces.all fun e => decide (e.born ≥ last))
  | [], ces, he => by rw [All2.nil_left] at he; subst he; simp
  | e :: es, ces, he => by
    obtain ⟨ce, cr, rfl, ⟨h1, h2, h3⟩, hr⟩ := All2.cons_left.1 he
    simp only [List.all_cons, all_rel last es cr hr]
    congr 1
    rw [h3, Bool.eq_iff_iff]; simp

theorem mapNext_forced {n : Nat} (h : n ≤ 1) : (Question.mapNext n).forced = true := by simp [Question.forced, h]

theorem nextA_rel (hr : HR N φ h w) {t : TypeId} {x v : AV} {cx : Value} {isS : Bool} (hx : VR φ x cx) (hu : nextA x isS h = .val v h') :
    VOk P N φ w (Instr.next cx isS t) v h' := by
  unfold nextA at hu
  split at hu
  · rename_i r
    simp only [VR_ptr] at hx; obtain ⟨L, hL, rfl⟩ := hx
    split at hu
    · rename_i s pos hb
      obtain ⟨⟨hN, hb0⟩, ba, g1, g2⟩ := hr.get hb hL
      have hne : ∀ c t f, (Obj.stringIter ba pos) ≠ .cells c t f := fun _ _ _ => by simp
      split at hu
      · rename_i x hx
        split at hu
        · rename_i hlt
          simp only [R.val.injEq] at hu; obtain ⟨rfl, rfl⟩ := hu
          have hlt : x < 128 := Nat.le_of_ble_eq_true hlt
          rw [← g2] at hx
          simp only [bytesOf, List.getElem?_map] at hx
          cases hq : ba.data.toList[pos]? with
          | none => rw [hq] at hx; cases hx
          | some u =>
            rw [hq] at hx
            simp only [Option.map_some, Option.some.injEq] at hx
            have hps := (List.getElem?_eq_some_iff.1 hq)
            obtain ⟨hpos, hval⟩ := hps
            have hpos' : pos < ba.size := by simpa using hpos
            have hget : ba.get! pos = u := by
              have : pos < ba.data.size := by simpa using hpos
              show ba.data[pos]! = u
              rw [getElem!_pos ba.data pos this]
              rw [← hval]; simp
            have hdec : Utf8.decode ba pos = (x, 1) := by
              simp only [Utf8.decode, Nat.add_zero, hget, hx]
              rw [if_pos (by simpa using hlt)]
            have hor : OR φ N L (setB w L.B (.stringIter ba (pos + 1))) (.strIter s (pos + 1)) :=
              ⟨⟨hN, hb0⟩, ba, by rw [setB_get (hr.get hb hL).lt, if_pos rfl], g2⟩
            refine ⟨φ, .tuple #[.bool true, goInt pos, .int .i32 x], setB w L.B (.stringIter ba (pos + 1)), ?_, by simp [All2, goInt], φ.le_refl,
              hr.set hb hL _ (fun k hk => by rw [setB_get (hr.get hb hL).lt, if_neg hk]) hor, below_setB _ hN⟩
            simp only [Instr.next, hb0, Nat.add_zero, Sem.run_bind, getObj_run g1 hne, Result.andThen_ok, hpos', if_true, hdec, setObj_run g1 hne, Sem.run_pure]
        · cases hu
      · rename_i hx
        simp only [R.val.injEq] at hu; obtain ⟨rfl, rfl⟩ := hu
        refine Pu.vok hr ⟨.tuple #[.bool false], ?_, by simp [All2]⟩
        have hpos' : ¬ pos < ba.size := by
          rw [← g2] at hx
          simp only [bytesOf, List.getElem?_map, Option.map_eq_none_iff, List.getElem?_eq_none_iff] at hx
          have : ba.data.toList.length = ba.size := by simp
          omega
        simp only [Instr.next, hb0, Nat.add_zero, Sem.run_bind, getObj_run g1 hne, Result.andThen_ok, hpos', if_false, Sem.run_pure]
    · rename_i since seen last hb
      simp only [R.val.injEq] at hu; obtain ⟨rfl, rfl⟩ := hu
      obtain ⟨⟨hN, hb0⟩, m', g1, g2⟩ := hr.get hb hL
      simp only at g2; subst g2
      refine Pu.vok hr ⟨.tuple #[.bool false], ?_, by simp [All2]⟩
      have hne : ∀ c t f, (Obj.mapIter none since seen.toArray last) ≠ .cells c t f := fun _ _ _ => by simp
      simp only [Instr.next, hb0, Nat.add_zero, Sem.run_bind, getObj_run g1 hne, Result.andThen_ok, Sem.run_pure]
    · rename_i m since seen last hb
      split at hu
      · rename_i es clock hm
        obtain ⟨⟨hN, hb0⟩, m', g1, M, hM, rfl⟩ := hr.get hb hL
        obtain ⟨hN', ces, g3, g4⟩ := hr.get hm hM
        have hne : ∀ c t f, (Obj.mapIter (some M.B) since seen.toArray last) ≠ .cells c t f := fun _ _ _ => by simp
        have hne' : ∀ c t f, (Obj.map ces clock) ≠ .cells c t f := fun _ _ _ => by simp
        have hcond : (!seen.toArray.isEmpty && !ces.isEmpty && ces.all fun e => decide (e.born ≥ last)) = (!seen.isEmpty && !es.isEmpty && es.all fun e => Nat.ble last e.2.2) := by
          rw [all_rel last es ces.toList g4]
          have e1 : es.isEmpty = ces.isEmpty := by
            have := g4.length
            rw [Bool.eq_iff_iff, List.isEmpty_iff, Array.isEmpty_iff, ← List.length_eq_zero_iff, this]; simp
          rw [e1]; simp
        split at hu
        · cases hu
        · rename_i hcf
          rw [hcf] at hcond
          have hfil := filter_rel seen es ces.toList g4
          have hfa : (ces.filter fun e => !seen.toArray.contains e.born).toList = ces.toList.filter fun e => !seen.toArray.contains e.born := by simp
          split at hu
          · rename_i hl
            simp only [R.val.injEq] at hu; obtain ⟨rfl, rfl⟩ := hu
            rw [hl, All2.nil_left, ← hfa] at hfil
            have hleft : (ces.filter fun e => !seen.toArray.contains e.born) = #[] := Array.toList_eq_nil_iff.1 hfil
            refine Pu.vok hr ⟨.tuple #[.bool false], ?_, by simp [All2]⟩
            simp only [Instr.next, hb0, Nat.add_zero, Sem.run_bind, getObj_run g1 hne, Result.andThen_ok, getObj_run g3 hne', hcond, Bool.false_eq_true, if_false, hleft]
            simp [Question.forced]
          · rename_i e hl
            split at hu
            · rename_i hbl
              simp only [R.val.injEq] at hu; obtain ⟨rfl, rfl⟩ := hu
              rw [hl] at hfil
              obtain ⟨ce, cr, hce, ⟨e1, e2, e3⟩, hnil⟩ := All2.cons_left.1 hfil
              rw [All2.nil_left] at hnil; subst hnil
              rw [← hfa] at hce
              have hleft : (ces.filter fun e => !seen.toArray.contains e.born) = #[ce] := Array.ext' hce
              have hlt : ce.born < since := by
                rw [e3]
                have q := Nat.le_of_ble_eq_true hbl
                omega
              have hor : OR φ N L (setB w L.B (.mapIter (some M.B) since (seen.toArray.push ce.born) clock)) (.mapIter (some m) since (seen ++ [e.2.2]) clock) := by
                refine ⟨⟨hN, hb0⟩, some M.B, ?_, M, hM, rfl⟩
                rw [setB_get (hr.get hb hL).lt, if_pos rfl, e3]; simp
              refine ⟨φ, .tuple #[.bool true, ce.key, ce.val], setB w L.B (.mapIter (some M.B) since (seen.toArray.push ce.born) clock), ?_, by simp [All2, e1, e2], φ.le_refl,
                hr.set hb hL _ (fun k hk => by rw [setB_get (hr.get hb hL).lt, if_neg hk]) hor, below_setB _ hN⟩
              simp only [Instr.next, hb0, Nat.add_zero, Sem.run_bind, getObj_run g1 hne, Result.andThen_ok, getObj_run g3 hne', hcond, Bool.false_eq_true, if_false, hleft]
              have hge : ¬ (since ≤ ce.born) := by omega
              simp [hlt, hge, Question.forced, setObj_run g1 hne]
            · cases hu
          · cases hu
      · cases hu
    · cases hu
  · cases hu

theorem lastOf_back : ∀ (l : List Nat) (b : Nat), lastOf l = some b → l.toArray.back? = some b
  | [], _, h => by cases h
  | [x], b, h => by simp only [lastOf, Option.some.injEq] at h; subst h; rfl
  | x :: y :: l, b, h => by
    have := lastOf_back (y :: l) b (by simpa [lastOf] using h)
    simpa using this

theorem findStamp_rel (b : Nat) : ∀ (es : List (AV × AV × Nat)) (ces : List MapEntry) (v : AV), All2 (EntR φ) es ces → findStamp b es = some v →
    ∃ ce, ces.find? (fun e => e.born == b) = some ce ∧ VR φ v (.tuple #[ce.key, ce.val])
  | [], _, _, _, h => by cases h
  | e :: es, ces, v, he, h => by
    obtain ⟨ce, cr, rfl, ⟨h1, h2, h3⟩, hr⟩ := All2.cons_left.1 he
    simp only [findStamp] at h
    split at h
    · rename_i hb
      simp only [Option.some.injEq] at h; subst h
      have := Nat.eq_of_beq_eq_true hb
      exact ⟨ce, by simp [List.find?_cons, h3, this], by simp [All2, h1, h2]⟩
    · rename_i hb
      have := Nat.ne_of_beq_eq_false hb
      obtain ⟨c, q1, q2⟩ := findStamp_rel b es cr v hr h
      exact ⟨c, by simp [List.find?_cons, h3, this, q1], q2⟩

theorem entryA_rel (hr : HR N φ h w) {x v : AV} {cx : Value} (hx : VR φ x cx) (hu : entryA x h = some v) : ∃ cv, (Instr.entry cx).run P w = .ok cv w ∧ VR φ v cv := by
  unfold entryA at hu
  split at hu
  · rename_i r
    simp only [VR_ptr] at hx; obtain ⟨L, hL, rfl⟩ := hx
    split at hu
    · rename_i m since seen stepped hb
      split at hu
      · rename_i stamp es clock hl hm
        split at hu
        · rename_i hc
          have hc := Nat.eq_of_beq_eq_true hc; subst hc
          obtain ⟨⟨hN, hb0⟩, m', g1, M, hM, rfl⟩ := hr.get hb hL
          obtain ⟨hN', ces, g3, g4⟩ := hr.get hm hM
          have hne : ∀ c t f, (Obj.mapIter (some M.B) since seen.toArray clock) ≠ .cells c t f := fun _ _ _ => by simp
          have hne' : ∀ c t f, (Obj.map ces clock) ≠ .cells c t f := fun _ _ _ => by simp
          obtain ⟨ce, q1, q2⟩ := findStamp_rel stamp es ces.toList v g4 hu
          refine ⟨_, ?_, q2⟩
          have hbk := lastOf_back _ _ hl
          have hf : ces.find? (fun e => e.born == stamp) = some ce := by rw [← Array.find?_toList]; exact q1
          simp only [Instr.entry, hb0, Nat.add_zero, Sem.run_bind, getObj_run g1 hne, Result.andThen_ok, hbk, getObj_run g3 hne', bne_self_eq_false, Bool.false_eq_true, if_false, hf, Sem.run_pure]
        · cases hu
      · cases hu
    · cases hu
  · cases hu

end
end Go.AX

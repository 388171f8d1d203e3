/-
  AX: what the evaluator has done ahead of the machine, the machine does when its order says so.
-/
import Derived.Test.YtnhnhiieomhgfaaGreatDoorAxDraw2
namespace Go.AX
open Go.RowKit

theorem listEqB_eq' : ∀ {a b : List Nat}, listEqB a b = true → a = b
  | [], [], _ => rfl
  | [], _ :: _, h => by simp [listEqB] at h
  | _ :: _, [], h => by simp [listEqB] at h
  | x :: a, y :: b, h => by
    simp only [listEqB] at h
    split at h
    · rename_i e; rw [Nat.eq_of_beq_eq_true e, listEqB_eq' h]
    · cases h

theorem kindEqB_eq' {j k : IntKind} (h : IntKind.eqB j k = true) : j = k := by cases j <;> cases k <;> first | rfl | (simp [IntKind.eqB] at h)

mutual
theorem AV.same_eq : ∀ {a b : AV}, AV.same a b = true → a = b
  | .bool a, b, h => by cases b <;> simp [AV.same] at h; rw [h]
  | .int k a, b, h => by
    cases b <;> simp [AV.same] at h
    rw [kindEqB_eq' h.1, h.2]
  | .str a, b, h => by cases b <;> simp [AV.same] at h; rw [listEqB_eq' h]
  | .nilptr, b, h => by cases b <;> simp [AV.same] at h; rfl
  | .ptr a c, b, h => by cases b <;> simp [AV.same] at h; rw [h.1, h.2]
  | .nilslice, b, h => by cases b <;> simp [AV.same] at h; rfl
  | .slice0, b, h => by cases b <;> simp [AV.same] at h
  | .slice a o l (.exact c), b, h => by
    cases b with
    | slice a' o' l' c' => cases c' <;> simp [AV.same] at h; rw [h.1.1.1, h.1.1.2, h.1.2, h.2]
    | _ => simp [AV.same] at h
  | .slice a o l (.opn c), b, h => by
    cases b with
    | slice a' o' l' c' => cases c' <;> simp [AV.same] at h; rw [h.1.1.1, h.1.1.2, h.1.2, h.2]
    | _ => simp [AV.same] at h
  | .nilmap, b, h => by cases b <;> simp [AV.same] at h; rfl
  | .map a, b, h => by cases b <;> simp [AV.same] at h; rw [h]
  | .func f x y, b, h => by
    cases b with
    | func g x' y' =>
      simp only [AV.same, Bool.and_eq_true] at h
      rw [Nat.eq_of_beq_eq_true h.1.1, AV.sames_eq h.1.2, AV.sames_eq h.2]
    | _ => simp [AV.same] at h
  | .yield a, b, h => by cases b <;> simp [AV.same] at h; rw [h]
  | .nilFunc, b, h => by cases b <;> simp [AV.same] at h; rfl
  | .iface t x, b, h => by
    cases b with
    | iface u y =>
      simp only [AV.same, Bool.and_eq_true] at h
      rw [Nat.eq_of_beq_eq_true h.1, AV.same_eq h.2]
    | _ => simp [AV.same] at h
  | .nilIface, b, h => by cases b <;> simp [AV.same] at h; rfl
  | .agg x, b, h => by
    cases b with
    | agg y => simp only [AV.same] at h; rw [AV.sames_eq h]
    | _ => simp [AV.same] at h
  | .tuple x, b, h => by
    cases b with
    | tuple y => simp only [AV.same] at h; rw [AV.sames_eq h]
    | _ => simp [AV.same] at h
theorem AV.sames_eq : ∀ {a b : List AV}, AV.sames a b = true → a = b
  | [], [], _ => rfl
  | [], _ :: _, h => by simp [AV.sames] at h
  | _ :: _, [], h => by simp [AV.sames] at h
  | x :: a, y :: b, h => by
    simp only [AV.sames, Bool.and_eq_true] at h
    rw [AV.same_eq h.1, AV.sames_eq h.2]
end

theorem T.same_eq : ∀ {a b : T AV}, T.same a b = true → a = b
  | .e, .e, _ => rfl
  | .e, .n .., h => by simp [T.same] at h
  | .n .., .e, h => by simp [T.same] at h
  | .n l v r, .n l' v' r', h => by
    cases v <;> cases v' <;> simp only [T.same, Bool.and_eq_true, Bool.false_eq_true] at h
    · rw [T.same_eq h.1, T.same_eq h.2]
    · rw [AV.same_eq h.1, T.same_eq h.2.1, T.same_eq h.2.2]

section
variable {P : Program} {N : NN} {φ : Phi} {w0 w : World} {d : Draw} {i : Nat} {o : Oper} {rest : List Nat} {idx : List Nat}

theorem optV_h {h h' : H} {x : Option AV} {v : AV} (e : optV h x = .val v h') : h' = h := by
  cases x with
  | none => cases e
  | some y => cases e; rfl

theorem builtin_h {b : Builtin} (hb : b = .len ∨ b = .cap ∨ b = .min ∨ b = .max) {ts : List TypeId} {args : List AV} {h h' : H} {v : AV} (e : builtinA P b ts args h = .val v h') : h' = h := by
  unfold builtinA at e
  rcases hb with rfl | rfl | rfl | rfl <;> split at e <;> first
    | contradiction
    | (cases e; rfl)
    | (cases e; done)
    | (split at e <;> first | (cases e; rfl) | (cases e; done))

theorem isRead_h {op : Op} (hr : isRead op = true) {tm : T AV} {h h' : H} {v : AV} (e : execA P tm h op = .val v h') : h' = h := by
  cases op with
  | call c =>
    obtain ⟨callee, args, ts⟩ := c
    cases callee with
    | builtin b =>
      have hb : b = .len ∨ b = .cap ∨ b = .min ∨ b = .max := by cases b <;> simp [isRead] at hr <;> simp
      simp only [execA] at e
      split at e
      · cases e
      · exact builtin_h hb e
    | _ => simp [isRead] at hr
  | makeFunc fn a b =>
    cases fn with
    | func f =>
      simp only [execA] at e
      split at e
      · cases e; rfl
      · cases e
    | _ => simp only [execA] at e; cases e
  | _ =>
    first
    | (simp [isRead] at hr; done)
    | (simp only [execA] at e
       first
       | exact optV_h e
       | (repeat' split at e
          all_goals first | exact optV_h e | (cases e; done) | (cases e; rfl)))

/-- The machine's block comes to be: it was laid by. -/
def NN.less (N : NN) (b : Nat) : NN := { n := N.n, res := fun x => if x = b then none else N.res x }

theorem OR.less {L : Loc} {b : Nat} : ∀ {ob : AObj}, OR φ N L w ob → OR φ (N.less b) L w ob
  | .cells .., x => x
  | .map .., x => x
  | .strIter .., x => x
  | .mapIter .., x => x
  | .loop _, x => x
  | .deferred _, x => x

theorem HR.fill {h : H} {w' : World} (hr : HR N φ h w) {b : Nat} (hb : N.res b ≠ none) {ob : AObj} (hg : h.t.get b = some ob) {O : Obj} (hw : w'.heap = w.heap.push O) {base K : Nat}
    (ho : OR (φ.ins b ⟨w.heap.size, base, K⟩) (N.less b) ⟨w.heap.size, base, K⟩ w' ob) : HR (N.less b) (φ.ins b ⟨w.heap.size, base, K⟩) h w' ∧ φ.le (φ.ins b ⟨w.heap.size, base, K⟩) := by
  obtain ⟨hb1, hb2⟩ := hr.res b hb
  have hle : φ.le (φ.ins b ⟨w.heap.size, base, K⟩) := Phi.le_ins _ hb1
  refine ⟨⟨fun x ox hx hn => ?_, fun x ox y oy L1 L2 hx hy h1 h2 e => ?_, fun x hx => ?_, fun x hx => ?_, fun g hg => hle _ _ (hr.glob g hg)⟩, hle⟩
  · by_cases q : x = b
    · subst q; rw [hg] at hx; cases hx; exact ⟨_, Phi.ins_same _ _ _, ho⟩
    · have hn' : N.res x = none := by simpa [NN.less, q] using hn
      obtain ⟨L, g1, g2⟩ := hr.obj x ox hx hn'
      have hlt := g2.lt
      refine ⟨L, hle _ _ g1, (g2.less.le hle).congr ?_⟩
      rw [hw, Array.getElem?_push, if_neg (by omega)]
  · by_cases q : x = b <;> by_cases r : y = b
    · rw [q, r]
    · subst q; rw [Phi.ins_same] at h1; cases h1; rw [Phi.ins_other _ _ r] at h2
      have := (hr.get hy h2).lt
      simp only at e; omega
    · subst r; rw [Phi.ins_same] at h2; cases h2; rw [Phi.ins_other _ _ q] at h1
      have := (hr.get hx h1).lt
      simp only at e; omega
    · rw [Phi.ins_other _ _ q] at h1; rw [Phi.ins_other _ _ r] at h2
      exact hr.inj x ox y oy L1 L2 hx hy h1 h2 e
  · rw [Phi.ins_other _ _ (by omega)]; exact hr.lt x hx
  · have q : x ≠ b := by
      intro e; subst e; simp [NN.less] at hx
    have hx' : N.res x ≠ none := by simpa [NN.less, q] using hx
    rw [Phi.ins_other _ _ q]; exact hr.res x hx'

theorem freshIs_eq {t : TypeId} {l : List AV} {ob : Option AObj} (h : freshIs t l ob = true) : ob = some (.cells l.length (T.fill .e 0 l) ⟨0, t + 1⟩ false) := by
  unfold freshIs at h
  split at h
  · simp only [Bool.and_eq_true] at h
    rw [Nat.eq_of_beq_eq_true h.1, T.same_eq h.2.1, Nat.eq_of_beq_eq_true h.2.2]
  · cases h

theorem slotIs_eq {nt : Nat} {tm : T AV} {t : Tmp} {v : AV} (h : slotIs nt tm (some t) v = true) : tm.get t = some v ∧ t < nt := by
  simp only [slotIs] at h
  split at h
  · cases h
  · rename_i hb
    split at h
    · rename_i u hu
      exact ⟨by rw [hu, AV.same_eq h], Nat.le_of_ble_eq_true hb⟩
    · cases h

/-- A slot is written that is written here alone, or that will be written again. -/
theorem TX.put {nt : Nat} {tm : T AV} {tmps : Array Value} (tx : TX φ d.ops (i :: rest) nt tm tmps) (hi : d.ops[i]? = some o) {v : AV} {cv : Value} (hs : slotIs nt tm o.dst v = true) (hv : VR φ v cv) :
    TX φ d.ops rest nt tm (match o.dst with | some t => tmps.setIfInBounds t cv | none => tmps) := by
  obtain ⟨h1, h2⟩ := tx
  cases hd : o.dst with
  | none =>
    refine ⟨h1, fun t ht => h2 t fun j hj => ?_⟩
    simp only [List.mem_cons] at hj
    rcases hj with rfl | hj
    · rw [dstOf_eq hi, hd]; simp
    · exact ht j hj
  | some t0 =>
    rw [hd] at hs
    obtain ⟨g1, g2⟩ := slotIs_eq hs
    refine ⟨by simp [h1], fun t ht => ?_⟩
    simp only
    rw [Array.getD_eq_getD_getElem?, Array.getElem?_setIfInBounds]
    by_cases e : t0 = t
    · subst e
      rw [if_pos rfl, if_pos (by rw [h1]; exact g2), g1]; exact hv
    · rw [if_neg e, ← Array.getD_eq_getD_getElem?]
      refine h2 t fun j hj => ?_
      simp only [List.mem_cons] at hj
      rcases hj with rfl | hj
      · rw [dstOf_eq hi, hd]; simpa using e
      · exact ht j hj

/-- What is not laid by any more, is of this operation. -/
def Keeps (N N' : NN) (k i : Nat) : Prop := N'.n = N.n ∧ ∀ b j q, ¬ (j = k ∧ q = i) → N.res b = some (j, q) → N'.res b = some (j, q)

theorem fresh1_run {h : H} (hr : HR N φ h w) {nt : Nat} {tm : T AV} {tmps : Array Value} (tr : TR φ nt tm tmps) (hal : isAlloc o = true) {t : TypeId} {l : List AV} (hf : fresh1 P tm o.op = some (t, l)) :
    ∃ cl : List Value, (execOp (ev tmps) o).run P w = .ok (.value (.pointer (some ⟨w.heap.size, 0, none⟩))) { w with heap := w.heap.push (.cells cl.toArray t) } ∧ All2 (VR φ) l cl ∧ (∀ a, a ∈ l → a.one = true) := by
  obtain ⟨dst, op, ty, pos, after, guard⟩ := o
  cases op with
  | alloc t =>
    simp only [fresh1] at hf
    split at hf
    · rename_i z hz
      cases hf
      obtain ⟨cz, h1, h2, h3, _⟩ := zeroA_rel (w := w) (φ := φ) hz
      refine ⟨cz.cells.toList, ?_, h2.cells, h3⟩
      simp only [execOp, Instr.alloc, newVar, newRow, Sem.run_bind, run_newObj, Result.andThen_ok, Sem.run_pure, Array.toArray_toList, h1]
    · cases hf
  | box t x =>
    simp only [fresh1] at hf
    split at hf
    · rename_i v hv
      split at hf
      · rename_i ho
        cases hf
        have := evalA_rel tr hv
        refine ⟨(ev tmps x).cells.toList, ?_, this.cells, allOne_mem ho⟩
        simp only [execOp, Instr.box, newVar, newRow, Sem.run_bind, run_newObj, Result.andThen_ok, Sem.run_pure, Array.toArray_toList]
      · cases hf
    · cases hf
  | _ => simp only [fresh1] at hf; cases hf

section
variable {fn : FuncId} {tmps : Array Value} {ck : List Item} {ds : List Deferred} {kd : CallKind} {ro : Option Nat} {cs : List Frame}

theorem isRead_defer (h : isRead o.op = true) : ∀ c, o.op ≠ .defer c := by
  intro c e; rw [e] at h; cases h

theorem isAlloc_defer (h : isAlloc o = true) : ∀ c, o.op ≠ .defer c := by
  intro c e; unfold isAlloc at h; rw [e] at h; cases hg : o.guard <;> rw [hg] at h <;> cases h

theorem isAlloc_guard (h : isAlloc o = true) : o.guard = none := by
  unfold isAlloc at h
  cases hg : o.guard with
  | none => rfl
  | some g => rw [hg] at h; cases ho : o.op <;> rw [ho] at h <;> cases h

/-- The machine does one operation that the evaluator did already. -/
theorem lag_one {k b nt : Nat} {tm : T AV} {h : H} (hw : DW d (i :: rest)) (hi : d.ops[i]? = some o) (tx : TX φ d.ops (i :: rest) nt tm tmps) (hr : HR N φ h w) (hN : N ≤ w.heap.size)
    (hok : readOk P nt tm h d.ops o b = true) (hres : isAlloc o = true → N.res b = some (k, i)) :
    ∃ N' φ' tmps' w', Keeps N N' k i ∧ φ.le φ' ∧ Steps P (lone ⟨fn, tmps, .inRegion d.ops (i :: rest) :: ck, ds, .run, kd, ro⟩ cs w) (lone ⟨fn, tmps', .inRegion d.ops rest :: ck, ds, .run, kd, ro⟩ cs w') ∧
      TX φ' d.ops rest nt tm tmps' ∧ HR N' φ' h w' ∧ Below N w w' ∧ N'.n ≤ w'.heap.size := by
  have hfree := hw.free hi
  unfold readOk at hok
  split at hok
  · rename_i hal
    split at hok
    · cases hok
    · rename_i v hv
      unfold readVal at hv
      split at hv
      · rename_i v' h' hread hex
        cases hv
        obtain ⟨e1, e2⟩ := execD_rel (P := P) hr hN tx hfree
        unfold execD at hex
        split at hex
        · rename_i hwa
          rw [hex] at e2
          have hh := isRead_h hread hex
          subst hh
          obtain ⟨φ', cv, w', g1, g2, g3, g4, g5⟩ := e2
          have hst := m_value (P := P) (fn := fn) (k := ck) (ds := ds) (kd := kd) (ro := ro) (cs := cs) (rest := rest) hi (by rw [← e1]; exact hwa) (.inr (isRead_defer hread)) g1
          refine ⟨N, φ', _, w', ⟨rfl, fun _ _ _ _ x => x⟩, g3, hst, ?_, g4, g5, Nat.le_trans hN g5.size⟩
          simp only [hi, Option.bind_some]
          exact (tx.le g3).put hi hok g2
        · rename_i hwa
          cases hex
          have hst := m_opSkip (P := P) (fn := fn) (tmps := tmps) (k := ck) (ds := ds) (kd := kd) (ro := ro) (cs := cs) (w := w) (ops := d.ops) (i := i) (rest := rest) (by rw [hi]; simp only [Option.map_some, Option.getD_some]; rw [← e1]; exact hwa)
          refine ⟨N, φ, _, w, ⟨rfl, fun _ _ _ _ x => x⟩, φ.le_refl, hst, ?_, hr, Below.refl _ _, hN⟩
          simp only [hi, Option.bind_some]
          exact tx.put hi hok VR_und
      · cases hv
  · rename_i hal
    have hres := hres hal
    split at hok
    · cases hok
    · rename_i t l hl
      split at hok
      · cases hok
      · rename_i hfr
        have hg := freshIs_eq hfr
        obtain ⟨tmps1, tr, hs⟩ := mini_rel tx hfree
        obtain ⟨cl, hrun, hcl, hone⟩ := fresh1_run (P := P) (w := w) hr tr hal hl
        have hcongr : execOp (ev tmps) o = execOp (ev tmps1) o := by
          refine execOp_congr (ρ := ev tmps) (ρ' := ev tmps1) o (fun cs b e => ?_) (fun x hx => ?_)
          · unfold isAlloc at hal; rw [e] at hal; cases hgd : o.guard <;> rw [hgd] at hal <;> cases hal
          · cases x with
            | tmp t => exact (hs t (slotsOf_ops (tmpsOf_mem (by simpa using hx)))).symm
            | _ => rfl
        have hst := m_value (P := P) (fn := fn) (tmps := tmps) (k := ck) (ds := ds) (kd := kd) (ro := ro) (cs := cs) (rest := rest) hi (by unfold Region.wanted; rw [isAlloc_guard hal]) (.inr (isAlloc_defer hal)) (by rw [hcongr]; exact hrun)
        have hfill := hr.fill (w' := { w with heap := w.heap.push (.cells cl.toArray t) }) (b := b) (by rw [hres]; simp) hg (O := .cells cl.toArray t) rfl (base := 0) (K := 0) (by
          have hle : φ.le (φ.ins b ⟨w.heap.size, 0, 0⟩) := Phi.le_ins _ (hr.res b (by rw [hres]; simp)).1
          refine ⟨cl.toArray, t, (0, 0), by simp, by simp [hcl.length], fun j v hj => ?_, fun _ => ⟨hN, by simp⟩, ⟨fun e => absurd rfl e, fun _ => rfl, fun _ => rfl⟩⟩
          rw [T.get_fill0] at hj
          obtain ⟨cv, hcv, hR⟩ := hcl.get hj
          exact ⟨(List.getElem?_eq_some_iff.1 hj).1, hone v (List.mem_of_getElem? hj), cv, by simpa using hcv, hR.le hle⟩)
        refine ⟨N.less b, _, _, _, ⟨rfl, fun x j q hne hx => ?_⟩, hfill.2, hst, ?_, hfill.1, below_push _ hN, ?_⟩
        · have : x ≠ b := by
            intro e; subst e; rw [hres] at hx; cases hx; exact hne ⟨rfl, rfl⟩
          simp [NN.less, this, hx]
        · simp only [hi, Option.bind_some]
          exact (tx.le hfill.2).put hi hok (VR_ptr.2 ⟨_, Phi.ins_same _ _ _, by simp⟩)
        · simp only [Array.size_push]; have : (N.less b).n = N.n := rfl; omega

end
end
end Go.AX

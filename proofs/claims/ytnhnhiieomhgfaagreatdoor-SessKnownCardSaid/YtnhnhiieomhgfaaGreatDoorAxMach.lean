/-
  AX: the machine's own steps, one by one, in a frame of whatever kind.
-/
import Derived.Test.YtnhnhiieomhgfaaGreatDoorAxOpsA
import Derived.Recover
namespace Go.AX
open Go.RowKit

theorem st {P : Program} {fr fr' : Frame} {cs cs' : List Frame} {w w' : World}
    (h : (stepG P true { frame := fr, callers := cs, status := .running, dying := none } w).bare = .go { frame := fr', callers := cs', status := .running, dying := none } w') :
    Steps P (lone fr cs w) (lone fr' cs' w') := .one (step_lone_go h)

section
variable {P : Program} {fn : FuncId} {tmps : Array Value} {k : List Item} {ds : List Deferred} {kd : CallKind} {ro : Option Nat} {cs : List Frame} {w : World}

theorem m_skip : Steps P (lone ⟨fn, tmps, .code .skip :: k, ds, .run, kd, ro⟩ cs w) (lone ⟨fn, tmps, k, ds, .run, kd, ro⟩ cs w) := st (by simp [stepG, stepG.exec])
theorem m_label {l : Nat} : Steps P (lone ⟨fn, tmps, .code (.label l) :: k, ds, .run, kd, ro⟩ cs w) (lone ⟨fn, tmps, k, ds, .run, kd, ro⟩ cs w) := st (by simp [stepG, stepG.exec])
theorem m_inBlock {l : Nat} : Steps P (lone ⟨fn, tmps, .inBlock l :: k, ds, .run, kd, ro⟩ cs w) (lone ⟨fn, tmps, k, ds, .run, kd, ro⟩ cs w) := st (by simp [stepG, stepG.exec])
theorem m_inScope {c : Code} : Steps P (lone ⟨fn, tmps, .inScope c :: k, ds, .run, kd, ro⟩ cs w) (lone ⟨fn, tmps, k, ds, .run, kd, ro⟩ cs w) := st (by simp [stepG, stepG.exec])
theorem m_seq {a b : Code} : Steps P (lone ⟨fn, tmps, .code (.seq a b) :: k, ds, .run, kd, ro⟩ cs w) (lone ⟨fn, tmps, .code a :: .code b :: k, ds, .run, kd, ro⟩ cs w) := st (by simp [stepG, stepG.exec])
theorem m_cond {c : Operand} {a b : Code} {t : Bool} (h : ev tmps c = .bool t) : Steps P (lone ⟨fn, tmps, .code (.cond c a b) :: k, ds, .run, kd, ro⟩ cs w) (lone ⟨fn, tmps, .code (if t then a else b) :: k, ds, .run, kd, ro⟩ cs w) :=
  st (by simp [stepG, stepG.exec, Frame.eval_ev, h])
theorem m_block {l : Nat} {c : Code} : Steps P (lone ⟨fn, tmps, .code (.block l c) :: k, ds, .run, kd, ro⟩ cs w) (lone ⟨fn, tmps, .code c :: .inBlock l :: k, ds, .run, kd, ro⟩ cs w) := st (by simp [stepG, stepG.exec])
theorem m_loop {c : Code} : Steps P (lone ⟨fn, tmps, .code (.loop c) :: k, ds, .run, kd, ro⟩ cs w) (lone ⟨fn, tmps, .code c :: .inLoop c :: k, ds, .run, kd, ro⟩ cs w) := st (by simp [stepG, stepG.exec])
theorem m_inLoop {c : Code} : Steps P (lone ⟨fn, tmps, .inLoop c :: k, ds, .run, kd, ro⟩ cs w) (lone ⟨fn, tmps, .code c :: .inLoop c :: k, ds, .run, kd, ro⟩ cs w) := st (by simp [stepG, stepG.exec])
theorem m_scope {c : Code} : Steps P (lone ⟨fn, tmps, .code (.scope c) :: k, ds, .run, kd, ro⟩ cs w) (lone ⟨fn, tmps, .code c :: .inScope c :: k, ds, .run, kd, ro⟩ cs w) := st (by simp [stepG, stepG.exec])
theorem m_exit {l : Nat} {k' : List Item} (h : exitTo l k = some k') : Steps P (lone ⟨fn, tmps, .code (.exit l) :: k, ds, .run, kd, ro⟩ cs w) (lone ⟨fn, tmps, k', ds, .run, kd, ro⟩ cs w) := st (by simp [stepG, stepG.exec, h])
theorem m_goto {l : Nat} {k' : List Item} (h : gotoIn l k = some k') : Steps P (lone ⟨fn, tmps, .code (.goto l) :: k, ds, .run, kd, ro⟩ cs w) (lone ⟨fn, tmps, k', ds, .run, kd, ro⟩ cs w) := st (by simp [stepG, stepG.exec, h])
theorem m_region {id : Nat} {ops : Array Oper} : Steps P (lone ⟨fn, tmps, .code (.region id ops false) :: k, ds, .run, kd, ro⟩ cs w) (lone ⟨fn, tmps, .inRegion ops (List.range ops.size) :: k, ds, .run, kd, ro⟩ cs w) := st (by simp [stepG, stepG.exec])
theorem m_regionEnd {ops : Array Oper} : Steps P (lone ⟨fn, tmps, .inRegion ops [] :: k, ds, .run, kd, ro⟩ cs w) (lone ⟨fn, tmps, k, ds, .run, kd, ro⟩ cs w) := st (by simp [stepG, stepG.exec])
theorem m_end : Steps P (lone ⟨fn, tmps, [], ds, .run, kd, none⟩ cs w) (lone ⟨fn, tmps, [], ds, .returning, kd, none⟩ cs w) := st (by simp [stepG, stepG.exec])
theorem m_ret : Steps P (lone ⟨fn, tmps, .code .ret :: k, ds, .run, kd, none⟩ cs w) (lone ⟨fn, tmps, .code .ret :: k, ds, .returning, kd, none⟩ cs w) := st (by simp [stepG, stepG.exec])

theorem m_opSkip {ops : Array Oper} {i : Nat} {rest : List Nat} (h : ((ops[i]?).map (Region.wanted · (yielded ops tmps))).getD false = false) :
    Steps P (lone ⟨fn, tmps, .inRegion ops (i :: rest) :: k, ds, .run, kd, ro⟩ cs w) (lone ((⟨fn, tmps, .inRegion ops (i :: rest) :: k, ds, .run, kd, ro⟩ : Frame).finish undef) cs w) :=
  st (by simp [stepG, stepG.exec, h])

/-- An operation that runs: what the machine does with what it comes to. -/
theorem m_op {ops : Array Oper} {i : Nat} {rest : List Nat} {o : Oper} (ho : ops[i]? = some o) (hw : Region.wanted o (yielded ops tmps) = true) (hd : ro = none ∨ ∀ c, o.op ≠ .defer c) :
    (stepG P true { frame := ⟨fn, tmps, .inRegion ops (i :: rest) :: k, ds, .run, kd, ro⟩, callers := cs, status := .running, dying := none } w) =
      stepG.apply P true ⟨fn, tmps, .inRegion ops (i :: rest) :: k, ds, .run, kd, ro⟩ cs none (execOp (ev tmps) o) w := by
  have he : (⟨fn, tmps, .inRegion ops (i :: rest) :: k, ds, .run, kd, ro⟩ : Frame).eval = ev tmps := Frame.eval_ev _
  simp only [stepG, stepG.exec, ho, Option.map_some, Option.getD_some, hw, if_true, stepG.oper, Frame.oper?, he]
  rcases hd with rfl | hd
  · rfl
  · cases ro with
    | none => rfl
    | some l => cases hop : o.op <;> first | rfl | exact absurd hop (hd _)

theorem m_value {ops : Array Oper} {i : Nat} {rest : List Nat} {o : Oper} (ho : ops[i]? = some o) (hw : Region.wanted o (yielded ops tmps) = true) (hd : ro = none ∨ ∀ c, o.op ≠ .defer c) {v : Value} {w' : World}
    (h : (execOp (ev tmps) o).run P w = .ok (.value v) w') :
    Steps P (lone ⟨fn, tmps, .inRegion ops (i :: rest) :: k, ds, .run, kd, ro⟩ cs w) (lone ((⟨fn, tmps, .inRegion ops (i :: rest) :: k, ds, .run, kd, ro⟩ : Frame).finish v) cs w') :=
  st (by rw [m_op ho hw hd]; simp [stepG.apply, h])

theorem m_skipped {ops : Array Oper} {i : Nat} {rest : List Nat} {o : Oper} (ho : ops[i]? = some o) (hw : Region.wanted o (yielded ops tmps) = true) (hd : ro = none ∨ ∀ c, o.op ≠ .defer c) {w' : World}
    (h : (execOp (ev tmps) o).run P w = .ok .skip w') :
    Steps P (lone ⟨fn, tmps, .inRegion ops (i :: rest) :: k, ds, .run, kd, ro⟩ cs w) (lone ((⟨fn, tmps, .inRegion ops (i :: rest) :: k, ds, .run, kd, ro⟩ : Frame).finish undef) cs w') :=
  st (by rw [m_op ho hw hd]; simp [stepG.apply, h])

theorem m_enter {ops : Array Oper} {i : Nat} {rest : List Nat} {o : Oper} (ho : ops[i]? = some o) (hw : Region.wanted o (yielded ops tmps) = true) (hd : ro = none ∨ ∀ c, o.op ≠ .defer c) {f : FuncId} {args : Array Value} {w' : World}
    (h : (execOp (ev tmps) o).run P w = .ok (.enter f args) w') :
    Steps P (lone ⟨fn, tmps, .inRegion ops (i :: rest) :: k, ds, .run, kd, ro⟩ cs w) (lone (Frame.enter P f args .normal) (⟨fn, tmps, .inRegion ops (i :: rest) :: k, ds, .run, kd, ro⟩ :: cs) w') :=
  st (by rw [m_op ho hw hd]; simp [stepG.apply, h])

theorem m_round {ops : Array Oper} {i : Nat} {rest : List Nat} {o : Oper} (ho : ops[i]? = some o) (hw : Region.wanted o (yielded ops tmps) = true) (hd : ro = none ∨ ∀ c, o.op ≠ .defer c) {l f : Nat} {t : Array Value} {a b : Code} {w' : World}
    (h : (execOp (ev tmps) o).run P w = .ok (.round l f t a b) w') :
    Steps P (lone ⟨fn, tmps, .inRegion ops (i :: rest) :: k, ds, .run, kd, ro⟩ cs w) (lone (Frame.round l f t a b .normal) (⟨fn, tmps, .inRegion ops (i :: rest) :: k, ds, .run, kd, ro⟩ :: cs) w') :=
  st (by rw [m_op ho hw hd]; simp [stepG.apply, h])

theorem m_defer {ops : Array Oper} {i : Nat} {rest : List Nat} {o : Oper} (ho : ops[i]? = some o) (hw : Region.wanted o (yielded ops tmps) = true) {d : Deferred} {w' : World}
    (h : (execOp (ev tmps) o).run P w = .ok (.defer d) w') :
    Steps P (lone ⟨fn, tmps, .inRegion ops (i :: rest) :: k, ds, .run, kd, none⟩ cs w) (lone ((⟨fn, tmps, .inRegion ops (i :: rest) :: k, d :: ds, .run, kd, none⟩ : Frame).finish undef) cs w') :=
  st (by rw [m_op ho hw (.inl rfl)]; simp [stepG.apply, h])

theorem m_recover {ops : Array Oper} {i : Nat} {rest : List Nat} {o : Oper} (ho : ops[i]? = some o) (hw : Region.wanted o (yielded ops tmps) = true) {w' : World}
    (h : (execOp (ev tmps) o).run P w = .ok .recover w') :
    Steps P (lone ⟨fn, tmps, .inRegion ops (i :: rest) :: k, ds, .run, kd, none⟩ cs w)
      (match tryRecover (⟨fn, tmps, .inRegion ops (i :: rest) :: k, ds, .run, kd, none⟩ : Frame) cs with
        | some (v, cs') => lone ((⟨fn, tmps, .inRegion ops (i :: rest) :: k, ds, .run, kd, none⟩ : Frame).finish v) cs' w'
        | none => lone ((⟨fn, tmps, .inRegion ops (i :: rest) :: k, ds, .run, kd, none⟩ : Frame).finish .nilIface) cs w') := by
  cases ht : tryRecover (⟨fn, tmps, .inRegion ops (i :: rest) :: k, ds, .run, kd, none⟩ : Frame) cs with
  | none => exact st (by rw [m_op ho hw (.inl rfl)]; simp [stepG.apply, h, ht])
  | some x => obtain ⟨v, cs'⟩ := x; exact st (by rw [m_op ho hw (.inl rfl)]; simp [stepG.apply, h, ht])

theorem m_panic {ops : Array Oper} {i : Nat} {rest : List Nat} {o : Oper} (ho : ops[i]? = some o) (hw : Region.wanted o (yielded ops tmps) = true) (hd : ro = none ∨ ∀ c, o.op ≠ .defer c) {v : Value} {w' : World}
    (h : (execOp (ev tmps) o).run P w = .halt (.panic v) w') :
    Steps P (lone ⟨fn, tmps, .inRegion ops (i :: rest) :: k, ds, .run, kd, ro⟩ cs w) (lone ((⟨fn, tmps, .inRegion ops (i :: rest) :: k, ds, .run, kd, ro⟩ : Frame).raise [{ v, recovered := false }]) cs w') :=
  st (by rw [m_op ho hw hd]; simp [stepG.apply, h])

/-! ## a round of a range over a function -/

theorem m_endRound {l : Nat} {c : Frame} {jump : Option Code} {todo : List Item} (ht : todo = [] ∧ jump = none ∨ (∃ k, todo = .code .ret :: k) ∧ jump = some .ret ∨ (∃ id k, todo = .code (.exit id) :: k ∧ exitTo id k = none ∧ jump = some (.exit id)) ∨ ∃ id k, todo = .code (.goto id) :: k ∧ gotoIn id k = none ∧ jump = some (.goto id))
    {v : Value} {w' : World} (h : (Instr.endRound l jump).run P w = .ok v w') :
    Steps P (lone ⟨fn, tmps, todo, ds, .run, .normal, some l⟩ (c :: cs) w) (lone (c.finish v) cs w') := by
  rcases ht with ⟨rfl, rfl⟩ | ⟨⟨k, rfl⟩, rfl⟩ | ⟨id, k, rfl, hk, rfl⟩ | ⟨id, k, rfl, hk, rfl⟩
  · exact st (by simp [stepG, stepG.exec, h, doReturn])
  · exact st (by simp [stepG, stepG.exec, h, doReturn])
  · exact st (by simp [stepG, stepG.exec, h, hk, doReturn])
  · exact st (by simp [stepG, stepG.exec, h, hk, doReturn])

theorem m_beginRound {l : Nat} {w' : World} (h : (Instr.beginRound l).run P w = .ok () w') :
    Steps P (lone ⟨fn, tmps, .beginRound :: k, ds, .run, kd, some l⟩ cs w) (lone ⟨fn, tmps, k, ds, .run, kd, some l⟩ cs w') :=
  st (by simp [stepG, stepG.exec, stepG.apply, h, Frame.finish])

theorem m_endRange {l : Nat} {j : Option Code} {w' : World} (h : (Instr.endLoop l).run P w = .ok j w') :
    Steps P (lone ⟨fn, tmps, .endRangeFunc l :: k, ds, .run, kd, ro⟩ cs w) (lone ⟨fn, tmps, (j.map Item.code).toList ++ k, ds, .run, kd, ro⟩ cs w') :=
  st (by simp [stepG, stepG.exec, h])

theorem m_rangeFunc {f : Operand} {ps : Array Tmp} {a b : Code} {l : Nat} {mark : List Deferred} {w' w'' : World} {g : FuncId} {args : Array Value}
    (h : (Instr.enterLoop fn tmps ps a b ro).run P w = .ok (l, mark) w')
    (h2 : ((do let d ← resolve (ev tmps) { callee := .value f, args := #[.const (.func (.yield l) #[] #[])], argTypes := #[] } 0; invoke d.target d.args) : Sem Next).run P w' = .ok (.enter g args) w'') :
    Steps P (lone ⟨fn, tmps, .code (.rangeFunc f ps a b) :: k, ds, .run, kd, ro⟩ cs w) (lone (Frame.enter P g args .normal) (⟨fn, tmps, .inRangeFunc l :: k, mark ++ ds, .run, kd, ro⟩ :: cs) w'') := by
  refine st ?_
  simp only [stepG, stepG.exec, h, Sem.runT_eq, GStep.bare_after]
  have he : (⟨fn, tmps, .inRangeFunc l :: k, mark ++ ds, .run, kd, ro⟩ : Frame).eval = ev tmps := Frame.eval_ev _
  simp only [he]
  simp [stepG.apply, h2]

/-! ## frames on their way out -/

theorem m_collected {u : FrameMode} (hu : u ≠ .run) {r : Nat} {args : Array Value} {calls : List Deferred} {todo : List Item} {w' : World} (h : (Instr.takeDeferred r).run P w = .ok calls w') :
    Steps P (lone ⟨fn, tmps, todo, { target := .collected r, args } :: ds, u, kd, ro⟩ cs w) (lone ⟨fn, tmps, todo, calls ++ ds, u, kd, ro⟩ cs w') := by
  cases u with
  | run => exact absurd rfl hu
  | returning => exact st (by simp [stepG, unwind, h])
  | panicking l => exact st (by simp [stepG, unwind, h])

theorem m_deferred {u : FrameMode} (hu : u ≠ .run) {g : Fn} {cap args : Array Value} {f : FuncId} {args' : Array Value} {todo : List Item} {w' : World} (h : (invoke (.fn g cap) args).run P w = .ok (.enter f args') w') :
    Steps P (lone ⟨fn, tmps, todo, { target := .fn g cap, args } :: ds, u, kd, ro⟩ cs w) (lone (Frame.enter P f args' .deferred) (⟨fn, tmps, todo, ds, u, kd, ro⟩ :: cs) w') := by
  cases u with
  | run => exact absurd rfl hu
  | returning => exact st (by simp [stepG, unwind, callDeferred, h])
  | panicking l => exact st (by simp [stepG, unwind, callDeferred, h])

theorem m_return {f : Func} (hf : P.funcs[fn]? = some f) {v : Value} {c : Frame} {todo : List Item} (h : (results f tmps).run P w = .ok v w) :
    Steps P (lone ⟨fn, tmps, todo, [], .returning, .normal, ro⟩ (c :: cs) w) (lone (c.finish v) cs w) :=
  st (by simp [stepG, unwind, doReturn, hf, h])

theorem m_returnD {f : Func} (hf : P.funcs[fn]? = some f) {v : Value} {c : Frame} {todo : List Item} (h : (results f tmps).run P w = .ok v w) :
    Steps P (lone ⟨fn, tmps, todo, [], .returning, .deferred, ro⟩ (c :: cs) w) (lone { c with mode := settle c.mode } cs w) := by
  refine st ?_
  simp only [stepG, unwind, doReturn, hf, Sem.runT_eq, h, GStep.bare_after, GStep.bare_go]
  unfold settle
  split <;> (try split) <;> simp_all

theorem m_raise {f : Func} (hf : P.funcs[fn]? = some f) {c : Frame} {chain : List PanicEntry} {todo : List Item} :
    Steps P (lone ⟨fn, tmps, todo, [], .panicking chain, kd, ro⟩ (c :: cs) w) (lone (c.raise chain) cs w) :=
  st (by simp [stepG, unwind, Frame.catches, hf])

end
end Go.AX

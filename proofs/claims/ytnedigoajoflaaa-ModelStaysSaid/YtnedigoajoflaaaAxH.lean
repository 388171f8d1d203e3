/-
  AX: slices that read as lists; rows that grow.
-/
import Derived.Test.YtnedigoajoflaaaAxG
set_option linter.unusedSimpArgs false
set_option linter.unusedVariables false
namespace Go.AX
noncomputable section
open Go.RowKit
def CellsAt (h : H) (b o : Nat) (cs : List AV) : Prop := ∀ i, i < cs.length → cellAt h b (o + i) = cs[i]?
inductive SliceAt (h : H) : AV → Nat → List AV → Prop
  | none : SliceAt h .nilslice 0 []
  | zero : SliceAt h .slice0 0 []
  | cell (b o n : Nat) (cap : Cap) (cs : List AV) : b < h.nx → CellsAt h b o cs → SliceAt h (.slice b o n cap) n cs
theorem CellsAt.of_get {h h' : H} {b : Nat} (e : h'.t.get b = h.t.get b) {o : Nat} {cs : List AV} (hc : CellsAt h b o cs) : CellsAt h' b o cs := fun i hi => by
  rw [cellAt_of_get e]; exact hc i hi
theorem CellsAt.only {h h' : H} {S : List Nat} (ho : Only h h' S) {b : Nat} (hb : b < h.nx) (hs : b ∉ S) {o : Nat} {cs : List AV} (hc : CellsAt h b o cs) : CellsAt h' b o cs := hc.of_get (ho.2 b hb hs)
def blkOf : AV → Option Nat
  | .slice b _ _ _ => some b
  | _ => none
theorem SliceAt.only {h h' : H} {S : List Nat} (ho : Only h h' S) {v : AV} {n : Nat} {cs : List AV} (hc : SliceAt h v n cs) (hs : ∀ b, blkOf v = some b → b ∉ S) : SliceAt h' v n cs := by
  cases hc with
  | none => exact .none
  | zero => exact .zero
  | cell b o n cap cs hb hc => exact .cell b o n cap cs (Nat.lt_of_lt_of_le hb ho.1) (hc.only ho hb (hs b rfl))
inductive Grows (size base : Nat) (h : H) : AV → Nat → List AV → Prop
  | none : Grows size base h .nilslice 0 []
  | cell (b n : Nat) (cs : List AV) (t : T AV) (ty : Nat) : base ≤ b → b < h.nx → cs.length = n * size → h.t.get b = some (.cells (n * size) t ⟨size, ty⟩ false) → (∀ j, t.get j = cs[j]?) → Grows size base h (.slice b 0 n (.opn 0)) n cs
theorem loadCells_all {t : T AV} {cs : List AV} (ht : ∀ j, t.get j = cs[j]?) : ∀ (k o : Nat), o + k ≤ cs.length → H.loadCells t o k = some ((cs.drop o).take k)
  | 0, o, _ => by simp [H.loadCells]
  | k + 1, o, hk => by
    have h1 : o < cs.length := by omega
    simp only [H.loadCells, ht, List.getElem?_eq_getElem h1, loadCells_all ht k (o + 1) (by omega)]
    rw [List.drop_eq_getElem_cons h1, List.take_succ_cons]
theorem loadRow_all {t : T AV} {cs : List AV} (ht : ∀ j, t.get j = cs[j]?) (k o : Nat) (hk : o + k ≤ cs.length) : H.loadRow t o k = some ((cs.drop o).take k) := by
  rw [loadRow_eq]; exact loadCells_all ht k o hk
theorem grownL_get (h : H) (old : Option Nat) (k : EK) (l : List AV) (b : Nat) (hb : b < h.nx) : (h.grown old k l).t.get b = if old = some b then none else h.t.get b := by
  unfold H.grown
  cases old with
  | none => simp only [T.get_set]; rw [if_neg (by omega), if_neg (by simp)]
  | some c =>
    simp only [T.get_set]; rw [if_neg (by omega)]
    by_cases e : b = c
    · subst e; simp
    · rw [if_neg e, if_neg (by simpa using fun q => e q.symm)]
theorem grownL_new (h : H) (old : Option Nat) (k : EK) (l : List AV) : (h.grown old k l).t.get h.nx = some (.cells l.length (T.ofRow l) k false) := by
  unfold H.grown; simp only [T.get_set, if_true, lenL_eq]
theorem grownL_nx (h : H) (old : Option Nat) (k : EK) (l : List AV) : (h.grown old k l).nx = h.nx + 1 := rfl
theorem keepK_szL (k : EK) (size : Nat) (e : TypeId) : (keepK k size e).sz = size := by unfold keepK; split <;> rfl
theorem appendN_grows {elem : TypeId} {size base : Nat} {h : H} {v : AV} {n m : Nat} {cs new : List AV} (hg : Grows size base h v n cs) (hb : base ≤ h.nx) (hm : 0 < m) (hs : 0 < size) (hl : new.length = m * size) (hsm : n + m ≤ 4194304) :
    ∃ v' h', appendN elem size v m new h = .val v' h' ∧ Grows size base h' v' (n + m) (cs ++ new) ∧ h'.nx = h.nx + 1 ∧ (∀ b, b < h.nx → blkOf v ≠ some b → h'.t.get b = h.t.get b) ∧ blkOf v' = some h.nx := by
  have e1 : Nat.beq (lenL new) (m * size) = true := by rw [lenL_eq, hl, Nat.beq_refl]
  obtain ⟨m, rfl⟩ : ∃ k, m = k + 1 := ⟨m - 1, by omega⟩
  cases hg with
  | none =>
    have e2 : small (m + 1) = true := by unfold small; rw [Nat.ble_eq]; omega
    refine ⟨.slice h.nx 0 (m + 1) (.opn 0), h.grown none ⟨size, elem + 1⟩ new, ?_, ?_, rfl, fun b hb _ => ?_, rfl⟩
    · unfold appendN; simp only [e1, e2]
    · rw [Nat.zero_add, List.nil_append]
      refine .cell h.nx (m + 1) new (T.ofRow new) (elem + 1) hb (Nat.lt_succ_self _) hl ?_ (T.get_ofRow new)
      rw [grownL_new, hl]
    · rw [grownL_get _ _ _ _ _ hb, if_neg (by simp)]
  | cell b n cs t ty hb1 hb2 hcs hget ht =>
    have hlt : n * size < (n + (m + 1)) * size := Nat.mul_lt_mul_of_pos_right (by omega) hs
    have e2 : small (n + (m + 1)) = true := by unfold small; rw [Nat.ble_eq]; omega
    have e3 : Nat.ble (0 + (n + (m + 1)) * size) (n * size) = false := by rw [← Bool.not_eq_true, Nat.ble_eq]; omega
    have e4 : H.loadRow t 0 (n * size) = some cs := by rw [loadRow_all ht _ _ (by omega), List.drop_zero, ← hcs, List.take_length]
    refine ⟨.slice h.nx 0 (n + (m + 1)) (.opn 0), h.grown (some b) (keepK ⟨size, ty⟩ size elem) (cs ++ new), ?_, ?_, rfl, fun c hc hne => ?_, rfl⟩
    · unfold appendN; simp only [e1, e2, e3, e4, hget, Nat.zero_mul, Nat.beq_refl]
    · have hlen : (cs ++ new).length = (n + (m + 1)) * size := by rw [List.length_append, hcs, hl, ← Nat.add_mul]
      refine .cell h.nx _ _ (T.ofRow (cs ++ new)) (keepK ⟨size, ty⟩ size elem).ty hb (Nat.lt_succ_self _) hlen ?_ (T.get_ofRow _)
      rw [grownL_new, hlen]
      have := keepK_szL ⟨size, ty⟩ size elem
      cases hk : keepK ⟨size, ty⟩ size elem with
      | mk a c => rw [hk] at this; cases this; rfl
    · rw [grownL_get _ _ _ _ _ hc]; exact if_neg hne
theorem Grows.slice {size base : Nat} {h : H} {v : AV} {n : Nat} {cs : List AV} (hg : Grows size base h v n cs) : SliceAt h v n cs := by
  cases hg with
  | none => exact .none
  | cell b n cs t ty hb1 hb2 hcs hget ht =>
    refine .cell b 0 n _ cs hb2 (fun i hi => ?_)
    unfold cellAt; rw [hget, Nat.zero_add]; exact ht i
theorem Grows.of_get {size base : Nat} {h h' : H} {v : AV} {n : Nat} {cs : List AV} (hg : Grows size base h v n cs) (hx : h.nx ≤ h'.nx) (he : ∀ b, blkOf v = some b → h'.t.get b = h.t.get b) : Grows size base h' v n cs := by
  cases hg with
  | none => exact .none
  | cell b n cs t ty hb1 hb2 hcs hget ht => exact .cell b n cs t ty hb1 (Nat.lt_of_lt_of_le hb2 hx) hcs (by rw [he b rfl]; exact hget) ht
end
end Go.AX

namespace Go.AX
noncomputable section
open Go.RowKit
section
variable {P : Program} {tm tm' : T AV} {h h' : H}
theorem evalA_same {x : Operand} (he : ∀ t, x = .tmp t → tm.get t = tm'.get t) : evalA tm x = evalA tm' x := by
  cases x with
  | tmp t => simp only [evalA, he t rfl]
  | _ => rfl
theorem evalG_same {x : Operand} (he : ∀ t, x = .tmp t → tm.get t = tm'.get t) : evalG tm h x = evalG tm' h x := by
  cases x with
  | tmp t => exact evalA_same he
  | _ => rfl
theorem evalsA_same : ∀ {l : List Operand}, (∀ t, Operand.tmp t ∈ l → tm.get t = tm'.get t) → evalsA tm l = evalsA tm' l
  | [], _ => rfl
  | x :: l, he => by
    simp only [evalsA, evalA_same (tm := tm) (tm' := tm') (x := x) (fun t e => he t (e ▸ List.mem_cons_self)), evalsA_same (l := l) (fun t ht => he t (List.mem_cons_of_mem _ ht))]
theorem evalP_same : ∀ {l : List (Nat × Operand)}, (∀ t, Operand.tmp t ∈ l.map (·.2) → tm.get t = tm'.get t) → evalP tm l = evalP tm' l
  | [], _ => rfl
  | (i, x) :: l, he => by
    simp only [evalP, evalA_same (tm := tm) (tm' := tm') (x := x) (fun t e => he t (e ▸ List.mem_cons_self)), evalP_same (l := l) (fun t ht => he t (List.mem_cons_of_mem _ ht))]
theorem evalO_same {x : Option Operand} (he : ∀ t, x = some (.tmp t) → tm.get t = tm'.get t) : evalO tm x = evalO tm' x := by
  cases x with
  | none => rfl
  | some x => simp only [evalO, evalA_same (tm := tm) (tm' := tm') (x := x) (fun t e => he t (e ▸ rfl))]
theorem execA_same (o : Op) (he : ∀ t, Operand.tmp t ∈ o.operands.toList → tm.get t = tm'.get t) : execA P tm h o = execA P tm' h o := by
  have e1 : ∀ x, x ∈ o.operands.toList → evalA tm x = evalA tm' x := fun x hx => evalA_same fun t ht => he t (ht ▸ hx)
  have e2 : ∀ x, x ∈ o.operands.toList → evalG tm h x = evalG tm' h x := fun x hx => evalG_same fun t ht => he t (ht ▸ hx)
  cases o with
  | build t ps =>
    have := evalP_same (tm := tm) (tm' := tm') (l := ps.toList) (fun t ht => he t (by simpa [Op.operands] using ht))
    simp only [execA, this]
  | buildSlice t n ps =>
    have := evalP_same (tm := tm) (tm' := tm') (l := ps.toList) (fun t ht => he t (by simpa [Op.operands] using ht))
    simp only [execA, this]
  | makeFunc f first cap =>
    cases f with
    | func f =>
      have a := evalsA_same (tm := tm) (tm' := tm') (l := first.toList) (fun t ht => he t (by simp only [Op.operands, Array.toList_append, List.mem_append]; exact .inl ht))
      have b := evalsA_same (tm := tm) (tm' := tm') (l := cap.toList) (fun t ht => he t (by simp only [Op.operands, Array.toList_append, List.mem_append]; exact .inr ht))
      simp only [execA, a, b]
    | _ => rfl
  | makeMap t r =>
    have a := evalO_same (tm := tm) (tm' := tm') (x := r) (fun t e => he t (by subst e; simp [Op.operands]))
    simp only [execA, a]
  | slice t x lo hi mx =>
    have a := evalO_same (tm := tm) (tm' := tm') (x := lo) (fun t e => he t (by subst e; simp [Op.operands]))
    have b := evalO_same (tm := tm) (tm' := tm') (x := hi) (fun t e => he t (by subst e; simp [Op.operands]))
    have c := evalO_same (tm := tm) (tm' := tm') (x := mx) (fun t e => he t (by subst e; simp [Op.operands]))
    simp only [execA, a, b, c, e1 x (by simp [Op.operands])]
  | call c =>
    obtain ⟨cl, args, ats⟩ := c
    have a := evalsA_same (tm := tm) (tm' := tm') (l := args.toList) (fun t ht => he t (by
      simp only [Op.operands, Call.operands, Array.toList_append, List.mem_append]; exact .inr ht))
    cases cl with
    | value f => simp only [execA, a, e1 f (by simp [Op.operands, Call.operands])]
    | builtin b => simp only [execA, a]
    | invoke r m => simp only [execA, a]
  | defer c =>
    obtain ⟨cl, args, ats⟩ := c
    have a := evalsA_same (tm := tm) (tm' := tm') (l := args.toList) (fun t ht => he t (by
      simp only [Op.operands, Call.operands, Array.toList_append, List.mem_append]; exact .inr ht))
    cases cl with
    | value f => simp only [execA, a, e1 f (by simp [Op.operands, Call.operands])]
    | _ => rfl
  | convert s d x => simp only [execA, e1 x (by simp [Op.operands])]
  | move x => simp only [execA, e1 x (by simp [Op.operands])]
  | assign x => simp only [execA, e1 x (by simp [Op.operands])]
  | pick c a b => simp only [execA, e1 c (by simp [Op.operands]), e1 a (by simp [Op.operands]), e1 b (by simp [Op.operands])]
  | box t x => simp only [execA, e1 x (by simp [Op.operands])]
  | load t x => simp only [execA, e2 x (by simp [Op.operands])]
  | store t x y => simp only [execA, e1 x (by simp [Op.operands]), e1 y (by simp [Op.operands])]
  | nilCheck x => simp only [execA, e1 x (by simp [Op.operands])]
  | binOp op t x y u => simp only [execA, e1 x (by simp [Op.operands]), e1 y (by simp [Op.operands])]
  | unOp op t x => simp only [execA, e1 x (by simp [Op.operands])]
  | makeInterface t x => simp only [execA, e1 x (by simp [Op.operands])]
  | makeSlice t x y => simp only [execA, e1 x (by simp [Op.operands]), e1 y (by simp [Op.operands])]
  | fieldAddr t x i => simp only [execA, e2 x (by simp [Op.operands])]
  | field t x i => simp only [execA, e1 x (by simp [Op.operands])]
  | indexAddr t x i => simp only [execA, e2 x (by simp [Op.operands]), e1 i (by simp [Op.operands])]
  | index t x i => simp only [execA, e1 x (by simp [Op.operands]), e1 i (by simp [Op.operands])]
  | lookup t x i ok => simp only [execA, e1 x (by simp [Op.operands]), e1 i (by simp [Op.operands])]
  | mapUpdate t m k x => simp only [execA, e1 x (by simp [Op.operands]), e1 m (by simp [Op.operands]), e1 k (by simp [Op.operands])]
  | insert t m k x => simp only [execA, e1 x (by simp [Op.operands]), e1 m (by simp [Op.operands]), e1 k (by simp [Op.operands])]
  | mapEntry t m k => simp only [execA, e1 m (by simp [Op.operands]), e1 k (by simp [Op.operands])]
  | entryStore t m s x => simp only [execA, e1 x (by simp [Op.operands]), e1 m (by simp [Op.operands]), e1 s (by simp [Op.operands])]
  | range t x => simp only [execA, e1 x (by simp [Op.operands])]
  | next x s => simp only [execA, e1 x (by simp [Op.operands])]
  | entry x => simp only [execA, e1 x (by simp [Op.operands])]
  | extract x i => simp only [execA, e1 x (by simp [Op.operands])]
  | panic x => simp only [execA, e1 x (by simp [Op.operands])]
  | _ => rfl
theorem execA_mini {ops : Array Oper} {o : Oper} : execA P (mini tm (slotsOf ops o)) h o.op = execA P tm h o.op :=
  execA_same _ fun t ht => by rw [mini_get, if_pos (slotsOf_ops (tmpsOf_mem ht))]
theorem wantedD_mini {ops : Array Oper} {o : Oper} : wantedD (mini tm (slotsOf ops o)) ops o = wantedD tm ops o := by
  unfold wantedD
  split
  · rfl
  · rename_i j want hg
    split
    · rename_i d hd
      have : d ∈ slotsOf ops o := by unfold slotsOf; rw [hg]; simp only [hd]; exact List.mem_cons_self
      rw [mini_get, if_pos this]
    · rfl
theorem execD_eq {ops : Array Oper} {o : Oper} : execD P tm h ops o = match wantedD tm ops o with | true => execA P tm h o.op | false => .val und h := by
  unfold execD; rw [wantedD_mini, execA_mini]; cases wantedD tm ops o <;> rfl
theorem isRead_val {op : Op} (hr : isRead op = true) : (∃ v, execA P tm h op = .val v h) ∨ execA P tm h op = .fail := by
  have hkey : (∃ v h', execA P tm h op = .val v h') ∨ execA P tm h op = .fail := by
    have ho : ∀ x : Option AV, (∃ v h', optV h x = .val v h') ∨ optV h x = .fail := fun x => by
      cases x with
      | none => exact .inr rfl
      | some v => exact .inl ⟨v, h, rfl⟩
    have hap : ∀ op t, (∃ v h', apartV P op t h = .val v h') ∨ apartV P op t h = .fail := fun op t => by
      unfold apartV
      repeat' (first | exact .inr rfl | exact .inl ⟨_, _, rfl⟩ | split)
    cases op with
    | call c =>
      obtain ⟨callee, args, ts⟩ := c
      cases callee with
      | builtin b =>
        have hb : b = .len ∨ b = .cap ∨ b = .min ∨ b = .max := by cases b <;> simp [isRead] at hr <;> simp
        simp only [execA]
        split
        · exact .inr rfl
        · unfold builtinA
          rcases hb with rfl | rfl | rfl | rfl <;> split <;> first
            | contradiction
            | exact .inr rfl
            | exact .inl ⟨_, _, rfl⟩
            | (split <;> first | exact .inr rfl | exact .inl ⟨_, _, rfl⟩)
      | _ => simp [isRead] at hr
    | makeFunc fn a b =>
      cases fn with
      | func f =>
        simp only [execA]
        split
        · exact .inl ⟨_, _, rfl⟩
        · exact .inr rfl
      | _ => exact .inr rfl
    | _ =>
      first
      | (simp [isRead] at hr; done)
      | (simp only [execA]
         first
         | exact ho _
         | (repeat' split
            all_goals first | exact ho _ | exact hap _ _ | exact .inr rfl | exact .inl ⟨_, _, rfl⟩))
  rcases hkey with ⟨v, h', e⟩ | e
  · have := isRead_h hr e; subst this; exact .inl ⟨v, e⟩
  · exact .inr e
mutual
theorem AV.same_refl : ∀ a : AV, AV.same a a = true
  | .bool b => by simp [AV.same]
  | .int k n => by simp [AV.same, eqB_self]
  | .str s => by simp only [AV.same]; exact (listEqB_iff s s).2 rfl
  | .nilptr => rfl
  | .ptr b o => by simp [AV.same]
  | .nilslice => rfl
  | .slice0 => rfl
  | .slice b o l (.exact c) => by simp [AV.same]
  | .slice b o l (.opn c) => by simp [AV.same]
  | .nilmap => rfl
  | .map b => by simp [AV.same]
  | .func f a c => by simp [AV.same, AV.sames_refl a, AV.sames_refl c]
  | .yield l => by simp [AV.same]
  | .nilFunc => rfl
  | .iface t v => by simp [AV.same, AV.same_refl v]
  | .nilIface => rfl
  | .agg cs => by simp [AV.same, AV.sames_refl cs]
  | .tuple cs => by simp [AV.same, AV.sames_refl cs]
theorem AV.sames_refl : ∀ l : List AV, AV.sames l l = true
  | [] => rfl
  | a :: l => by simp [AV.sames, AV.same_refl a, AV.sames_refl l]
end
def scalarConv (P : Program) : Op → Bool
  | .convert _ d _ => match P.underlying d with
    | some (.int _) => true
    | some .string => true
    | _ => false
  | _ => false
theorem scalarConv_val {o : Op} (hs : scalarConv P o = true) {v : AV} (e : execA P tm h o = .val v h') : ((∃ k n, v = .int k n) ∨ ∃ s, v = .str s) ∧ h' = h ∧ isConv o = true ∧ isRead o = false := by
  cases o with
  | convert s d x =>
    have hd : (∃ k, P.underlying d = some (.int k)) ∨ P.underlying d = some .string := by
      simp only [scalarConv] at hs
      split at hs
      · rename_i k hk; exact .inl ⟨k, hk⟩
      · rename_i hk; exact .inr hk
      · cases hs
    have hv : (∃ k n, v = .int k n) ∨ ∃ s, v = .str s := by
      simp only [execA] at e
      split at e
      · rename_i y hy
        have e' : convertA P s d y h = .val v h' := by
          rcases hd with ⟨k, hd⟩ | hd <;> rw [hd] at e <;> (split at e <;> first | exact e | (exfalso; rename_i q; cases q; done) | (exfalso; rename_i q _; cases q; done))
        clear e
        unfold convertA at e'
        rcases hd with ⟨k, hd⟩ | hd <;> rw [hd] at e'
        · split at e' <;> first
            | (simp only [forceInt_eq] at e'; cases e'; exact .inl ⟨_, _, rfl⟩)
            | (exfalso; simp_all; done)
        · split at e' <;> first
            | (cases e'; exact .inr ⟨_, rfl⟩)
            | (exfalso; simp_all; done)
            | (repeat' (first | (cases e'; exact .inr ⟨_, rfl⟩) | (cases e'; done) | split at e'))
      · cases e
    exact ⟨hv, conv_h e (by rcases hv with q | q; exact .inl q; exact .inr (.inl q)), rfl, rfl⟩
  | _ => simp [scalarConv] at hs
theorem scalarConv_res {o : Op} (hs : scalarConv P o = true) : (∃ v h', execA P tm h o = .val v h') ∨ execA P tm h o = .fail := by
  cases o with
  | convert s d x =>
    simp only [execA]
    split
    · split
      · unfold toUnsafeA
        repeat' (first | exact .inr rfl | exact .inl ⟨_, _, rfl⟩ | split)
      · unfold fromUnsafeA
        repeat' (first | exact .inr rfl | exact .inl ⟨_, _, rfl⟩ | split)
      · unfold convertA
        repeat' (first | exact .inr rfl | exact .inl ⟨_, _, rfl⟩ | split)
    · exact .inr rfl
  | _ => simp [scalarConv] at hs
def isAssign : Op → Bool
  | .assign _ => true
  | _ => false
def kindOf (P : Program) (o : Oper) : Nat :=
  match isRead o.op || scalarConv P o.op with
  | true => 0
  | false => match isAlloc o with
    | true => 1
    | false => match isAssign o.op with
      | true => 2
      | false => match isConv o.op with
        | true => 4
        | false => 3
def notDst (d : Option Tmp) (t : Tmp) : Bool :=
  match d with
  | none => true
  | some d => !Nat.beq d t
def clearOf (ops : Array Oper) (o : Oper) : List (Nat × Oper) → Bool
  | [] => true
  | p :: l => (slotsOf ops o).all (notDst p.2.dst) && (match o.dst with | none => true | some e => notDst p.2.dst e) && clearOf ops o l
def EI (P : Program) (nt : Nat) (tm : T AV) (h : H) (ops : Array Oper) (rem : List (Nat × Oper)) (early : List (Nat × Oper × Nat)) : Prop :=
  ∀ p, p ∈ early → kindOf P p.2.1 = 0 ∧ clearOf ops p.2.1 rem = true ∧ ∃ v, readVal P tm h ops p.2.1 = some v ∧ slotIs nt tm p.2.1.dst v = true
theorem EI.sub {nt : Nat} {ops : Array Oper} {rem : List (Nat × Oper)} {early : List (Nat × Oper × Nat)} {B : List Nat} (he : EI P nt tm h ops rem early) : EI P nt tm h ops rem (dropF B early) := fun p hp => he p (dropF_sub hp)
theorem kind_alloc {o : Oper} (hk : kindOf P o = 0) : isAlloc o = false := by
  unfold kindOf at hk
  split at hk
  · rename_i hr
    cases ha : isAlloc o with
    | false => rfl
    | true =>
      rw [Bool.or_eq_true] at hr
      unfold isAlloc at ha
      cases ho : o.op <;> rw [ho] at ha hr <;> simp [isRead, scalarConv] at ha hr
  · split at hk
    · cases hk
    · split at hk
      · cases hk
      · split at hk <;> cases hk
theorem kind_fl {o : Oper} (hk : kindOf P o = 0) : isFl o = false := by
  cases hf : isFl o with
  | false => rfl
  | true =>
    rcases isFl_op hf with ⟨t, n, ps, hop⟩ | ⟨t, n, ps, hop⟩ <;> unfold kindOf at hk <;> simp [hop, isRead, scalarConv, isConv, isAssign] at hk <;> split at hk <;> cases hk
theorem EI.early {nt : Nat} {ops : Array Oper} {rem : List (Nat × Oper)} : ∀ {early : List (Nat × Oper × Nat)}, EI P nt tm h ops rem early → earlyOk P nt tm h ops early = true
  | [], _ => rfl
  | (j, o, b) :: l, he => by
    obtain ⟨k0, _, v, hv, hs⟩ := he (j, o, b) List.mem_cons_self
    have : readOk P nt tm h ops o b = true := by
      unfold readOk
      rw [kind_alloc k0, kind_fl k0]
      simp only at hv hs ⊢
      rw [hv]; exact hs
    simp only [earlyOk, this]
    exact EI.early (fun p hp => he p (List.mem_cons_of_mem _ hp))
theorem kind0 {o : Oper} (hk : kindOf P o = 0) : isRead o.op = true ∨ scalarConv P o.op = true := by
  unfold kindOf at hk
  split at hk
  · rename_i hr; exact Bool.or_eq_true _ _ ▸ hr
  · split at hk
    · cases hk
    · split at hk
      · cases hk
      · split at hk <;> cases hk
theorem read_now {ops : Array Oper} {o : Oper} (hk : kindOf P o = 0) {K : AV → H → Prop} (hw : wantW tm ops o.guard (exW P (execA P tm h o.op) K) (K und h)) : ∃ v, readVal P tm h ops o = some v ∧ K v h := by
  have hyes : wantedD tm ops o = true → exW P (execA P tm h o.op) K → ∃ v, readVal P tm h ops o = some v ∧ K v h := by
    intro hd hx
    rcases kind0 hk with hr | hs
    · rcases isRead_val (P := P) (tm := tm) (h := h) hr with ⟨v, e⟩ | e
      · rw [e] at hx
        refine ⟨v, ?_, hx⟩
        unfold readVal
        rw [hr, execD_eq, hd]; simp only [e]
      · rw [e] at hx; exact absurd hx id
    · rcases scalarConv_res (P := P) (tm := tm) (h := h) hs with ⟨v, h', e⟩ | e
      · obtain ⟨hv, hh, hc, hr⟩ := scalarConv_val hs e
        subst hh
        rw [e] at hx
        refine ⟨v, ?_, hx⟩
        unfold readVal
        rw [hr, hc, execD_eq, hd]
        simp only [e]
        rcases hv with ⟨k, n, rfl⟩ | ⟨s, rfl⟩ <;> rfl
      · rw [e] at hx; exact absurd hx id
  have hno : wantedD tm ops o = false → K und h → ∃ v, readVal P tm h ops o = some v ∧ K v h := by
    intro hd hx
    refine ⟨und, ?_, hx⟩
    unfold readVal
    rw [execD_eq, hd]
    rcases kind0 hk with hr | hs
    · rw [hr]
    · have : isRead o.op = false ∧ isConv o.op = true := by
        cases ho : o.op <;> rw [ho] at hs <;> simp [scalarConv] at hs <;> exact ⟨rfl, rfl⟩
      rw [this.1, this.2]; rfl
  unfold wantW at hw
  split at hw
  · rename_i hg; exact hyes (by unfold wantedD; rw [hg]) hw
  · rename_i j want hg
    split at hw
    · rename_i d hd
      split at hw
      · rename_i b hb
        have e : wantedD tm ops o = (b == want) := by unfold wantedD; simp only [hg, hd, hb]
        cases hbw : (b == want) with
        | true => exact hyes (e.trans hbw) (hw.1 hbw)
        | false => exact hno (e.trans hbw) (hw.2 hbw)
      · rename_i hb
        exact hno (by unfold wantedD; simp only [hg, hd, hb]) hw
      · exact absurd hw id
    · exact absurd hw id
theorem exec_now {ops : Array Oper} {o : Oper} {K : AV → H → Prop} (hw : wantW tm ops o.guard (exW P (execA P tm h o.op) K) (K und h)) : exW P (execD P tm h ops o) K := by
  rw [execD_eq]
  unfold wantW at hw
  split at hw
  · rename_i hg
    have : wantedD tm ops o = true := by unfold wantedD; rw [hg]
    rw [this]; exact hw
  · rename_i j want hg
    split at hw
    · rename_i d hd
      split at hw
      · rename_i b hb
        have e : wantedD tm ops o = (b == want) := by unfold wantedD; simp only [hg, hd, hb]
        rw [e]
        cases hbw : (b == want) with
        | true => exact hw.1 hbw
        | false => exact hw.2 hbw
      · rename_i hb
        have e : wantedD tm ops o = false := by unfold wantedD; simp only [hg, hd, hb]
        rw [e]; exact hw
      · exact absurd hw id
    · exact absurd hw id
def isDrawn : Code → Bool
  | .region _ _ true => true
  | _ => false
end
end
end Go.AX

namespace Go.AX
noncomputable section
open Go.RowKit
section
variable {P : Program} {tm : T AV} {h : H}
def consL (v : AV) (x : Option (List AV)) : Option (List AV) :=
  match x with
  | some r => some (v :: r)
  | none => none
theorem consL_some (v : AV) (r : List AV) : consL v (some r) = some (v :: r) := id rfl
theorem seqO_nil : seqO [] = some [] := id rfl
theorem seqO_cons (v : AV) (l : List (Option AV)) : seqO (some v :: l) = consL v (seqO l) := id rfl
def aggO (x : Option (List AV)) : Option AV :=
  match x with
  | some r => some (.agg r)
  | none => none
theorem aggO_some (r : List AV) : aggO (some r) = some (.agg r) := id rfl
def ats (h : H) (b o : Nat) : Nat → List (Option AV)
  | 0 => []
  | k + 1 => cellAt h b o :: ats h b (o + 1) k
theorem ats_succ (b o k : Nat) : ats h b o (k + 1) = cellAt h b o :: ats h b (o + 1) k := id rfl
theorem ats_eq (b : Nat) : ∀ (k o : Nat), ats h b o k = (List.range' o k).map (cellAt h b)
  | 0, o => rfl
  | k + 1, o => by rw [ats_succ, ats_eq b k (o + 1)]; rfl
theorem ld_agg {t : TypeId} {k : Nat} (ht : aggT P t = true) (hk : P.cellsOf t = k + 1) (b o : Nat) : loadV P h t b o = aggO (seqO (ats h b o (k + 1))) := by
  rw [loadV_agg ht hk, ats_eq]; unfold aggO; cases seqO _ <;> rfl
theorem row_ats (b o k : Nat) : h.row b o (k + 1) = seqO (ats h b o (k + 1)) := by rw [row_seqO, ats_eq]
def fillC (place : Nat → Option (Nat × Nat)) (cells : List AV) : List (Nat × List AV) → Option (List AV)
  | [] => some cells
  | (i, l) :: rest => match place i with
    | none => none
    | some (off, size) => match Nat.beq l.length size && Nat.ble (off + l.length) cells.length with
      | true => fillC place (splice cells off l) rest
      | false => none
theorem fillA_C (place : Nat → Option (Nat × Nat)) : ∀ (parts : List (Nat × AV)) (cells : List AV), fillA place cells parts = fillC place cells (parts.map fun p => (p.1, p.2.cells))
  | [], _ => rfl
  | (i, v) :: rest, cells => by
    simp only [fillA, List.map_cons, fillC]
    cases place i with
    | none => rfl
    | some q =>
      obtain ⟨off, size⟩ := q
      simp only
      cases Nat.beq v.cells.length size && Nat.ble (off + v.cells.length) cells.length with
      | true => exact fillA_C place rest _
      | false => rfl
def buildC (P : Program) (t : TypeId) (parts : List (Nat × List AV)) : Option AV :=
  match zeroA P t, P.underlying t with
  | some z, some (.struct fields) =>
    match fields.toList.all (fun f => okT P f.type) with
    | false => none
    | true => match fillC (placeOf P fields.toList) z.cells parts with
    | some l => some (.agg l)
    | none => none
  | some z, some (.array _ elem) =>
    match okT P elem with
    | false => none
    | true => match fillC (fun i => some (i * P.cellsOf elem, P.cellsOf elem)) z.cells parts with
    | some l => some (.agg l)
    | none => none
  | _, _ => none
theorem build_C (t : TypeId) (parts : List (Nat × AV)) : buildA P t parts = buildC P t (parts.map fun p => (p.1, p.2.cells)) := by
  unfold buildA buildC
  cases zeroA P t with
  | none => rfl
  | some z => cases P.underlying t with
    | none => rfl
    | some d => cases d <;> first | rfl | (simp only [fillA_C]; rfl) | simp only [fillA_C]
def sliceR (e : TypeId) (n : Nat) (l : List AV) (h : H) : R :=
  match allOne l with
  | true => .val (.slice h.nx 0 n (.exact n)) (h.newCells e l)
  | false => .fail
theorem sliceR_ok {e : TypeId} {n : Nat} {l : List AV} (hl : allOne l = true) : sliceR e n l h = .val (.slice h.nx 0 n (.exact n)) (h.newCells e l) := by unfold sliceR; rw [hl]
def buildSC (P : Program) (t : TypeId) (n : Nat) (parts : List (Nat × List AV)) : Option (TypeId × List AV) :=
  match P.underlying t with
  | some (.slice elem) =>
    match okT P elem, small (n * P.cellsOf elem), zeroA P elem with
    | true, true, some z => match Nat.beq z.cells.length (P.cellsOf elem), fillC (fun i => some (i * P.cellsOf elem, P.cellsOf elem)) (repl z.cells n) parts with
      | true, some l => some (elem, l)
      | _, _ => none
    | _, _, _ => none
  | _ => none
def buildSR (x : Option (TypeId × List AV)) (n : Nat) (h : H) : R :=
  match x with
  | some (e, l) => sliceR e n l h
  | none => .fail
theorem buildSR_some (e : TypeId) (l : List AV) (n : Nat) : buildSR (some (e, l)) n h = sliceR e n l h := id rfl
theorem buildS_C (t : TypeId) (n : Nat) (parts : List (Nat × AV)) : buildSliceA P t n parts h = buildSR (buildSC P t n (parts.map fun p => (p.1, p.2.cells))) n h := by
  unfold buildSliceA buildSC buildSR
  cases P.underlying t with
  | none => rfl
  | some d => cases d with
    | slice elem =>
      simp only [fillA_C]
      cases okT P elem with
      | false => rfl
      | true => cases small (n * P.cellsOf elem) with
        | false => rfl
        | true => cases zeroA P elem with
          | none => rfl
          | some z =>
            simp only
            cases Nat.beq z.cells.length (P.cellsOf elem) with
            | false => rfl
            | true =>
              cases fillC (fun i => some (i * P.cellsOf elem, P.cellsOf elem)) (repl z.cells n) (parts.map fun p => (p.1, p.2.cells)) with
              | none => rfl
              | some l => simp only [sliceR]; cases allOne l <;> rfl
    | _ => rfl
def convR (P : Program) (src dst : TypeId) (v : AV) (h : H) : R :=
  match P.underlying src, P.underlying dst with
  | some (.pointer t), some .unsafePointer => toUnsafeA P t v h
  | some .unsafePointer, some (.pointer u) => fromUnsafeA P u v h
  | _, _ => convertA P src dst v h
theorem ex_convert (s d : TypeId) (x : Operand) : execA P tm h (.convert s d x) = ob (evalA tm x) fun v => convR P s d v h := by
  simp only [execA]; unfold ob convR; rfl
theorem conv_int {s d : TypeId} {u : TypeDesc} {k : IntKind} (hs : P.underlying s = some u) (hd : P.underlying d = some (.int k)) (j : IntKind) (n : Int) : convR P s d (.int j n) h = .val (.int k (wrapF k n)) h := by
  unfold convR
  rw [hs, hd]
  split
  · rename_i e; cases e
  · rename_i e; cases e
  · unfold convertA; rw [hs, hd]; simp only [forceInt_eq]
theorem bi_len_slice {t e : TypeId} (hu : P.underlying t = some (.slice e)) (b o n : Nat) (c : Cap) (ts : List TypeId) (xs : List AV) : builtinA P .len (t :: ts) (.slice b o n c :: xs) h = .val (.int .i64 (.ofNat n)) h := by
  simp only [builtinA, len_slice hu]
theorem bi_len_nil {t e : TypeId} (hu : P.underlying t = some (.slice e)) (ts : List TypeId) (xs : List AV) : builtinA P .len (t :: ts) (.nilslice :: xs) h = .val (.int .i64 (.ofNat 0)) h := by
  simp only [builtinA, len_nil hu]
theorem bi_len_0 {t e : TypeId} (hu : P.underlying t = some (.slice e)) (ts : List TypeId) (xs : List AV) : builtinA P .len (t :: ts) (.slice0 :: xs) h = .val (.int .i64 (.ofNat 0)) h := by
  simp only [builtinA, len_0 hu]
theorem bi_len_str {t : TypeId} (hu : P.underlying t = some .string) (s : List Nat) (ts : List TypeId) (xs : List AV) : builtinA P .len (t :: ts) (.str s :: xs) h = .val (.int .i64 (.ofNat s.length)) h := by
  simp only [builtinA, len_str hu]
theorem bi_min (k j : IntKind) (x y : Int) (ts : List TypeId) : builtinA P .min ts [.int k x, .int j y] h = .val (.int k (if y < x then y else x)) h := by
  simp only [builtinA]
  by_cases q : y < x
  · rw [if_pos q]; split
    · rfl
    · rename_i hn _; exact absurd q hn
  · rw [if_neg q]; split
    · rename_i hn _; exact absurd hn q
    · rfl
theorem bi_max (k j : IntKind) (x y : Int) (ts : List TypeId) : builtinA P .max ts [.int k x, .int j y] h = .val (.int k (if x < y then y else x)) h := by
  simp only [builtinA]
  by_cases q : x < y
  · rw [if_pos q]; split
    · rfl
    · rename_i hn _; exact absurd q hn
  · rw [if_neg q]; split
    · rename_i hn _; exact absurd hn q
    · rfl
theorem bi_append {t u e : TypeId} {info : TypeInfo} {u' : TypeDesc} {size : Nat} (hu : P.underlying t = some (.slice e)) (hu2 : P.underlying u = some u') (hn : ∀ k, u' ≠ .int k) (hi : P.info? e = some info) (hk : appendOk P e info = true) (hsz : info.size = size)
    (s : AV) (b o n : Nat) (c : Cap) (ts : List TypeId) (xs : List AV) : builtinA P .append (t :: u :: ts) (s :: .slice b o n c :: xs) h = obs (h.row b o (n * size)) fun new => appendN e size s n new h := by
  subst hsz
  cases u' with
  | int k => exact absurd rfl (hn k)
  | _ => simp only [builtinA, hu, hu2, appendA, hi, lenOfA, hk, srcA]; unfold obs; cases h.row b o (n * info.size) <;> rfl
theorem bi_append_nil {t u e : TypeId} {info : TypeInfo} {u' : TypeDesc} (hu : P.underlying t = some (.slice e)) (hu2 : P.underlying u = some u') (hn : ∀ k, u' ≠ .int k) (hi : P.info? e = some info) (hk : appendOk P e info = true)
    (s : AV) (ts : List TypeId) (xs : List AV) : builtinA P .append (t :: u :: ts) (s :: .nilslice :: xs) h = appendN e info.size s 0 [] h := by
  cases u' with
  | int k => exact absurd rfl (hn k)
  | _ => simp only [builtinA, hu, hu2, appendA, hi, lenOfA, hk, srcA]
theorem b_eqlS {t : TypeId} {x y : Operand} (a b : List Nat) : binR P h .eql t x y (.str a) (.str b) = .val (.bool (decide (a = b))) h := by
  simp only [binR, apartA, binA, strB, optV]
  congr 2
  by_cases e : a = b
  · rw [decide_eq_true e]; exact (listEqB_iff a b).2 e
  · rw [decide_eq_false e]; cases hb : listEqB a b with
    | false => rfl
    | true => exact absurd ((listEqB_iff a b).1 hb) e
theorem b_neqS {t : TypeId} {x y : Operand} (a b : List Nat) : binR P h .neq t x y (.str a) (.str b) = .val (.bool (!decide (a = b))) h := by
  simp only [binR, apartA, binA, strB, optV]
  congr 2
  by_cases e : a = b
  · rw [decide_eq_true e]; rw [(listEqB_iff a b).2 e]
  · rw [decide_eq_false e]; cases hb : listEqB a b with
    | false => rfl
    | true => exact absurd ((listEqB_iff a b).1 hb) e
def eqO (x : Option Bool) (h : H) : R :=
  match x with
  | some r => .val (.bool r) h
  | none => .fail
theorem eqO_some (b : Bool) : eqO (some b) h = .val (.bool b) h := id rfl
def neO (x : Option Bool) (h : H) : R :=
  match x with
  | some r => .val (.bool !r) h
  | none => .fail
theorem neO_some (b : Bool) : neO (some b) h = .val (.bool !b) h := id rfl
theorem b_neqA {t : TypeId} (hg : P.eqGuardType P.depth t = false) {x y : Operand} (a b : List AV) : binR P h .neq t x y (.agg a) (.agg b) = neO (eqA P 12 t (.agg a) (.agg b)) h := by
  simp only [binR, apartA, binA, guardEq, hg, Bool.not_false, optV, neO]
  cases eqA P 12 t (.agg a) (.agg b) <;> rfl
theorem allOne_nil : allOne [] = true := id rfl
theorem allOne_cons (v : AV) (l : List AV) : allOne (v :: l) = (v.one && allOne l) := by simp only [allOne]; cases v.one <;> rfl
def andO (x y : Option Bool) : Option Bool :=
  match x with
  | some true => y
  | some false => some false
  | none => none
theorem andO_some (a b : Bool) : andO (some a) (some b) = some (a && b) := by cases a <;> rfl
def infoOk (P : Program) (e : TypeId) (size : Nat) : Bool :=
  match P.info? e with
  | some info => appendOk P e info && Nat.beq info.size size
  | none => false
theorem bi_append2 {t u e : TypeId} {u' : TypeDesc} {size : Nat} (hu : P.underlying t = some (.slice e)) (hu2 : P.underlying u = some u') (hn : ∀ k, u' ≠ .int k) (hi : infoOk P e size = true)
    (s : AV) (b o n : Nat) (c : Cap) (ts : List TypeId) (xs : List AV) : builtinA P .append (t :: u :: ts) (s :: .slice b o n c :: xs) h = obs (h.row b o (n * size)) fun new => appendN e size s n new h := by
  unfold infoOk at hi
  split at hi
  · rename_i info hinfo
    rw [Bool.and_eq_true] at hi
    exact bi_append hu hu2 hn hinfo hi.1 (Nat.eq_of_beq_eq_true hi.2) s b o n c ts xs
  · cases hi
theorem ex_makeSlice (t : TypeId) (x y : Operand) : execA P tm h (.makeSlice t x y) = ob (evalA tm x) fun l => ob (evalA tm y) fun c => makeSliceA P t l c h := by
  simp only [execA]
  cases evalA tm x with
  | none => cases evalA tm y <;> rfl
  | some v => cases evalA tm y <;> rfl
def natsEq : List Nat → List Nat → Bool
  | [], [] => true
  | a :: l, b :: r => Nat.beq a b && natsEq l r
  | _, _ => false
theorem natsEq_eq : ∀ {l r : List Nat}, natsEq l r = true → l = r
  | [], [], _ => rfl
  | a :: l, b :: r, h => by
    simp only [natsEq, Bool.and_eq_true] at h
    rw [Nat.eq_of_beq_eq_true h.1, natsEq_eq h.2]
  | [], _ :: _, h => by cases h
  | _ :: _, [], h => by cases h
theorem idxd_inj {ops : List Oper} {l r : List (Nat × Oper)} (hl : ∀ p, p ∈ l → p ∈ idxd 0 ops) (hr : ∀ p, p ∈ r → p ∈ idxd 0 ops) (he : l.map (·.1) = r.map (·.1)) : l = r := by
  induction l generalizing r with
  | nil => cases r with
    | nil => rfl
    | cons b r => cases he
  | cons a l ih => cases r with
    | nil => cases he
    | cons b r =>
      simp only [List.map_cons, List.cons.injEq] at he
      have h1 := idxd_mem.1 (hl a List.mem_cons_self)
      have h2 := idxd_mem.1 (hr b List.mem_cons_self)
      have : a = b := by
        obtain ⟨i, o⟩ := a; obtain ⟨j, o'⟩ := b
        simp only at he h1 h2
        obtain ⟨rfl, _⟩ := he
        have := h1.2.symm.trans h2.2
        cases this; rfl
      rw [this, ih (fun p hp => hl p (List.mem_cons_of_mem _ hp)) (fun p hp => hr p (List.mem_cons_of_mem _ hp)) he.2]
theorem row_1 (b o : Nat) : h.row b o 1 = seqO [cellAt h b o] := row_ats b o 0
theorem row_2 (b o : Nat) : h.row b o 2 = seqO [cellAt h b o, cellAt h b (o + 1)] := row_ats b o 1
theorem row_3 (b o : Nat) : h.row b o 3 = seqO [cellAt h b o, cellAt h b (o + 1), cellAt h b (o + 2)] := row_ats b o 2
theorem row_4 (b o : Nat) : h.row b o 4 = seqO [cellAt h b o, cellAt h b (o + 1), cellAt h b (o + 2), cellAt h b (o + 3)] := row_ats b o 3
theorem row_5 (b o : Nat) : h.row b o 5 = seqO [cellAt h b o, cellAt h b (o + 1), cellAt h b (o + 2), cellAt h b (o + 3), cellAt h b (o + 4)] := row_ats b o 4
theorem row_6 (b o : Nat) : h.row b o 6 = seqO [cellAt h b o, cellAt h b (o + 1), cellAt h b (o + 2), cellAt h b (o + 3), cellAt h b (o + 4), cellAt h b (o + 5)] := row_ats b o 5
theorem Grows.cells {size base : Nat} {v : AV} {n : Nat} {cs : List AV} (hg : Grows size base h v n cs) : v.cells = [v] := by cases hg <;> rfl
theorem Grows.one {size base : Nat} {v : AV} {n : Nat} {cs : List AV} (hg : Grows size base h v n cs) : v.one = true := by cases hg <;> rfl
theorem Grows.len {size base : Nat} {v : AV} {n : Nat} {cs : List AV} (hg : Grows size base h v n cs) {t e : TypeId} (hu : P.underlying t = some (.slice e)) (h' : H) (ts : List TypeId) (xs : List AV) : builtinA P .len (t :: ts) (v :: xs) h' = .val (.int .i64 (.ofNat n)) h' := by
  cases hg with
  | none => exact bi_len_nil hu ts xs
  | cell => exact bi_len_slice hu _ _ _ _ ts xs
theorem Grows.base {size base : Nat} {v : AV} {n : Nat} {cs : List AV} (hg : Grows size base h v n cs) {b : Nat} (hb : blkOf v = some b) : base ≤ b ∧ b < h.nx := by
  cases hg with
  | none => cases hb
  | cell c n cs t ty h1 h2 => cases hb; exact ⟨h1, h2⟩
theorem SliceAt.len {v : AV} {n : Nat} {cs : List AV} (hs : SliceAt h v n cs) {t e : TypeId} (hu : P.underlying t = some (.slice e)) (h' : H) (ts : List TypeId) (xs : List AV) : builtinA P .len (t :: ts) (v :: xs) h' = .val (.int .i64 (.ofNat n)) h' := by
  cases hs with
  | none => exact bi_len_nil hu ts xs
  | zero => exact bi_len_0 hu ts xs
  | cell => exact bi_len_slice hu _ _ _ _ ts xs
theorem SliceAt.place {v : AV} {n : Nat} {cs : List AV} (hs : SliceAt h v n cs) (hn : 0 < n) : ∃ b o cap, v = .slice b o n cap ∧ b < h.nx ∧ CellsAt h b o cs := by
  cases hs with
  | none => omega
  | zero => omega
  | cell b o n cap cs h1 h2 => exact ⟨b, o, cap, rfl, h1, h2⟩
def cellR (ok : Bool) (x : Option AV) (k : Nat → Nat → Option (List AV)) : Option (List AV) :=
  match ok, x with
  | true, some (.ptr b o) => k b o
  | _, _ => none
theorem cellR_ptr (b o : Nat) (k : Nat → Nat → Option (List AV)) : cellR true (some (.ptr b o)) k = k b o := id rfl
def consV (x : Option AV) (y : Option (List AV)) : Option (List AV) :=
  match x, y with
  | some v, some vs => some (v :: vs)
  | _, _ => none
theorem consV_some (v : AV) (vs : List AV) : consV (some v) (some vs) = some (v :: vs) := id rfl
theorem evalRes_cell (a : Tmp) (t : TypeId) (l : List ResultVar) : evalRes P tm h (.cell a t :: l) = cellR (okT P t) (tm.get a) fun b o => consV (loadV P h t b o) (evalRes P tm h l) := id rfl
theorem codeW_ret {fn nt : Nat} {ro : Option Nat} {ds : List Nat} {Q : KQ} : codeW P fn nt ro .ret ds tm h Q = Q .ret ds tm h := id rfl
theorem codeW_skip {fn nt : Nat} {ro : Option Nat} {ds : List Nat} {Q : KQ} : codeW P fn nt ro .skip ds tm h Q = Q .norm ds tm h := id rfl
theorem codeW_exit {fn nt : Nat} {ro : Option Nat} {ds : List Nat} {Q : KQ} (i : Nat) : codeW P fn nt ro (.exit i) ds tm h Q = Q (.exit i) ds tm h := id rfl
end
end
end Go.AX

namespace Go.AX
set_option maxRecDepth 10000 in
theorem B : ((((((((type_of% @opsW_none) ∧ ((type_of% @opsW_guard) ∧ (type_of% @opsW_nil))) ∧ (((type_of% @opK_def) ∧ (type_of% @gW_true)) ∧ ((type_of% @gW_false) ∧ (type_of% @guardV_eq)))) ∧ (((type_of% @dstL_zero) ∧ ((type_of% @dstL_succ) ∧ (type_of% @gD_some))) ∧ (((type_of% @gB_bool) ∧ (type_of% @ex_move)) ∧ ((type_of% @ex_assign) ∧ (type_of% @ex_pick))))) ∧ ((((type_of% @pick_true) ∧ ((type_of% @pick_false) ∧ (type_of% @ex_alloc))) ∧ (((type_of% @ex_box) ∧ (type_of% @boxR_ok)) ∧ ((type_of% @ex_build) ∧ (type_of% @ex_buildSlice)))) ∧ ((((type_of% @ex_load) ∧ (type_of% @ex_store)) ∧ ((type_of% @ptrR_ptr) ∧ (type_of% @ex_nilCheck))) ∧ (((type_of% @nilR_ptr) ∧ (type_of% @nilR_func)) ∧ ((type_of% @ex_binOp) ∧ (type_of% @ex_unNot)))))) ∧ (((((type_of% @notR_bool) ∧ ((type_of% @ex_makeFunc) ∧ (type_of% @funcR_some))) ∧ (((type_of% @ex_fieldAddr) ∧ (type_of% @ex_field)) ∧ ((type_of% @ex_indexAddr) ∧ (type_of% @ex_index)))) ∧ (((type_of% @ex_extract) ∧ ((type_of% @tupR_tuple) ∧ (type_of% @ex_call))) ∧ (((type_of% @ex_builtin) ∧ (type_of% @callV_yield)) ∧ ((type_of% @ob_some) ∧ (type_of% @obs_some))))) ∧ ((((type_of% @obp_some) ∧ ((type_of% @obo_some) ∧ (type_of% @obh_some))) ∧ (((type_of% @orUnd_some) ∧ (type_of% @consO_some)) ∧ ((type_of% @consP_some) ∧ (type_of% @mapO_some)))) ∧ ((((type_of% @evalA_tmp) ∧ (type_of% @evalA_const)) ∧ ((type_of% @evalA_func) ∧ (type_of% @evalG_tmp))) ∧ (((type_of% @evalG_const) ∧ (type_of% @evalsA_nil)) ∧ ((type_of% @evalsA_cons) ∧ (type_of% @evalP_nil))))))) ∧ ((((((type_of% @evalP_cons) ∧ ((type_of% @evalO_none) ∧ (type_of% @evalO_some))) ∧ (((type_of% @ofVal_lit) ∧ (type_of% @ofVal_neg)) ∧ ((type_of% @ofVal_negSucc) ∧ (type_of% @ofVal_bool)))) ∧ (((type_of% @ofVal_nilptr) ∧ ((type_of% @ofVal_nilslice) ∧ (type_of% @ofVal_nilmap))) ∧ (((type_of% @ofVal_nilFunc) ∧ (type_of% @ofVal_nilIface)) ∧ ((type_of% @ofVal_str) ∧ (type_of% @exW_val))))) ∧ ((((type_of% @exW_skip) ∧ ((type_of% @exW_enter) ∧ (type_of% @exW_round))) ∧ (((type_of% @exW_ext) ∧ (type_of% @putT_some)) ∧ ((type_of% @putT_no) ∧ (type_of% @seqK_norm)))) ∧ ((((type_of% @seqK_exit) ∧ (type_of% @seqK_ret)) ∧ ((type_of% @blkK_norm) ∧ (type_of% @blkK_exit))) ∧ (((type_of% @blkK_ret) ∧ (type_of% @loopK_norm)) ∧ ((type_of% @loopK_exit) ∧ (type_of% @loopK_ret)))))) ∧ (((((type_of% @codeK_def) ∧ ((type_of% @retK_exit) ∧ (type_of% @T.get_set))) ∧ (((type_of% @T.get_fill0) ∧ (type_of% @List.getElem?_cons_zero.{0})) ∧ ((type_of% @List.getElem?_cons_succ.{0}) ∧ (type_of% @List.getElem?_nil.{0})))) ∧ (((type_of% @List.length_cons.{0}) ∧ ((type_of% @List.length_nil.{0}) ∧ (type_of% @Nat.zero_add))) ∧ (((type_of% @Nat.add_zero) ∧ (type_of% @and_true)) ∧ ((type_of% @true_and) ∧ (type_of% @and_self))))) ∧ ((((type_of% @and_false) ∧ ((type_of% @false_and) ∧ (type_of% @not_true_eq_false))) ∧ (((type_of% @not_false_eq_true) ∧ (type_of% @bb_tt)) ∧ ((type_of% @bb_tf) ∧ (type_of% @bb_ft)))) ∧ ((((type_of% @bb_ff) ∧ (type_of% @b_eql)) ∧ ((type_of% @b_neq) ∧ (type_of% @b_lss))) ∧ (((type_of% @b_leq) ∧ (type_of% @b_gtr)) ∧ ((type_of% @b_geq) ∧ (type_of% @b_add)))))))) ∧ (((((((type_of% @b_sub) ∧ ((type_of% @b_mul) ∧ (type_of% @lt_nat))) ∧ (((type_of% @le_nat) ∧ (type_of% @eq_nat)) ∧ ((type_of% @ne_nat) ∧ (type_of% @tmod_nat)))) ∧ (((type_of% @tdiv_nat) ∧ ((type_of% @cells_bool) ∧ (type_of% @one_bool))) ∧ (((type_of% @cells_int) ∧ (type_of% @one_int)) ∧ ((type_of% @cells_str) ∧ (type_of% @one_str))))) ∧ ((((type_of% @cells_nilptr) ∧ ((type_of% @one_nilptr) ∧ (type_of% @cells_ptr))) ∧ (((type_of% @one_ptr) ∧ (type_of% @cells_nilslice)) ∧ ((type_of% @one_nilslice) ∧ (type_of% @cells_slice0)))) ∧ ((((type_of% @one_slice0) ∧ (type_of% @cells_slice)) ∧ ((type_of% @one_slice) ∧ (type_of% @cells_nilmap))) ∧ (((type_of% @one_nilmap) ∧ (type_of% @cells_map)) ∧ ((type_of% @one_map) ∧ (type_of% @cells_func)))))) ∧ (((((type_of% @one_func) ∧ ((type_of% @cells_yield) ∧ (type_of% @one_yield))) ∧ (((type_of% @cells_nilFunc) ∧ (type_of% @one_nilFunc)) ∧ ((type_of% @cells_iface) ∧ (type_of% @one_iface)))) ∧ (((type_of% @cells_nilIface) ∧ ((type_of% @one_nilIface) ∧ (type_of% @cells_agg))) ∧ (((type_of% @hasAll_zero) ∧ (type_of% @hasAll_succ)) ∧ ((type_of% @Option.isSome_some.{0}) ∧ (type_of% @Bool.and_self))))) ∧ ((((type_of% @Bool.and_true) ∧ ((type_of% @Bool.true_and) ∧ (type_of% @lenGe_cons))) ∧ (((type_of% @lenGe_nil) ∧ (type_of% @List.nil_append.{0})) ∧ ((type_of% @List.append_nil.{0}) ∧ (type_of% @List.cons_append.{0})))) ∧ ((((type_of% @condW_bool) ∧ (type_of% @ifB_true)) ∧ ((type_of% @ifB_false) ∧ (type_of% @Bool.not_true))) ∧ (((type_of% @Bool.not_false) ∧ (type_of% @n_eq_add)) ∧ ((type_of% @add_eq_n) ∧ (type_of% @add_eq_add))))))) ∧ ((((((type_of% @Nat.add_assoc) ∧ ((type_of% @nx_sts) ∧ (type_of% @nx_new))) ∧ (((type_of% @wrAt_sts) ∧ (type_of% @wrAt_new)) ∧ ((type_of% @cellAt_new) ∧ (type_of% @bool_eq_self)))) ∧ (((type_of% @decide_true) ∧ ((type_of% @decide_false) ∧ (type_of% @List.toList_toArray.{0}))) ∧ (((type_of% @retW_eq) ∧ (type_of% @qW_some)) ∧ ((type_of% @evalRes_nil) ∧ (type_of% @evalRes_tmp))))) ∧ ((((type_of% @consR_some) ∧ ((type_of% @oneV_one) ∧ (type_of% @oneV_two))) ∧ (((type_of% @cellAt_sts) ∧ (type_of% @put_sts)) ∧ ((type_of% @Nat.not_lt_zero) ∧ (type_of% @Nat.le_refl)))) ∧ ((((type_of% @Nat.zero_le) ∧ (type_of% @Nat.sub_self)) ∧ ((type_of% @Nat.sub_zero) ∧ (type_of% @consL_some))) ∧ (((type_of% @seqO_nil) ∧ (type_of% @seqO_cons)) ∧ ((type_of% @aggO_some) ∧ (type_of% @build_C)))))) ∧ (((((type_of% @buildS_C) ∧ ((type_of% @sliceR_ok) ∧ (type_of% @buildSR_some))) ∧ (((type_of% @ex_convert) ∧ (type_of% @bi_min)) ∧ ((type_of% @bi_max) ∧ (type_of% @b_eqlS)))) ∧ (((type_of% @b_neqS) ∧ ((type_of% @eqO_some) ∧ (type_of% @neO_some))) ∧ (((type_of% @allOne_nil) ∧ (type_of% @allOne_cons)) ∧ ((type_of% @andO_some) ∧ (type_of% @ex_makeSlice))))) ∧ ((((type_of% @List.map_cons.{0,0}) ∧ ((type_of% @List.map_nil.{0,0}) ∧ (type_of% @row_1))) ∧ (((type_of% @row_2) ∧ (type_of% @row_3)) ∧ ((type_of% @row_4) ∧ (type_of% @row_5)))) ∧ ((((type_of% @row_6) ∧ (type_of% @codeW_ret)) ∧ ((type_of% @codeW_skip) ∧ (type_of% @codeW_exit))) ∧ (((type_of% @gB_und) ∧ (type_of% @cellR_ptr)) ∧ ((type_of% @consV_some) ∧ (type_of% @evalRes_cell))))))))) :=
  ⟨⟨⟨⟨⟨⟨⟨@opsW_none, ⟨@opsW_guard, @opsW_nil⟩⟩, ⟨⟨@opK_def, @gW_true⟩, ⟨@gW_false, @guardV_eq⟩⟩⟩, ⟨⟨@dstL_zero, ⟨@dstL_succ, @gD_some⟩⟩, ⟨⟨@gB_bool, @ex_move⟩, ⟨@ex_assign, @ex_pick⟩⟩⟩⟩, ⟨⟨⟨@pick_true, ⟨@pick_false, @ex_alloc⟩⟩, ⟨⟨@ex_box, @boxR_ok⟩, ⟨@ex_build, @ex_buildSlice⟩⟩⟩, ⟨⟨⟨@ex_load, @ex_store⟩, ⟨@ptrR_ptr, @ex_nilCheck⟩⟩, ⟨⟨@nilR_ptr, @nilR_func⟩, ⟨@ex_binOp, @ex_unNot⟩⟩⟩⟩⟩, ⟨⟨⟨⟨@notR_bool, ⟨@ex_makeFunc, @funcR_some⟩⟩, ⟨⟨@ex_fieldAddr, @ex_field⟩, ⟨@ex_indexAddr, @ex_index⟩⟩⟩, ⟨⟨@ex_extract, ⟨@tupR_tuple, @ex_call⟩⟩, ⟨⟨@ex_builtin, @callV_yield⟩, ⟨@ob_some, @obs_some⟩⟩⟩⟩, ⟨⟨⟨@obp_some, ⟨@obo_some, @obh_some⟩⟩, ⟨⟨@orUnd_some, @consO_some⟩, ⟨@consP_some, @mapO_some⟩⟩⟩, ⟨⟨⟨@evalA_tmp, @evalA_const⟩, ⟨@evalA_func, @evalG_tmp⟩⟩, ⟨⟨@evalG_const, @evalsA_nil⟩, ⟨@evalsA_cons, @evalP_nil⟩⟩⟩⟩⟩⟩, ⟨⟨⟨⟨⟨@evalP_cons, ⟨@evalO_none, @evalO_some⟩⟩, ⟨⟨@ofVal_lit, @ofVal_neg⟩, ⟨@ofVal_negSucc, @ofVal_bool⟩⟩⟩, ⟨⟨@ofVal_nilptr, ⟨@ofVal_nilslice, @ofVal_nilmap⟩⟩, ⟨⟨@ofVal_nilFunc, @ofVal_nilIface⟩, ⟨@ofVal_str, @exW_val⟩⟩⟩⟩, ⟨⟨⟨@exW_skip, ⟨@exW_enter, @exW_round⟩⟩, ⟨⟨@exW_ext, @putT_some⟩, ⟨@putT_no, @seqK_norm⟩⟩⟩, ⟨⟨⟨@seqK_exit, @seqK_ret⟩, ⟨@blkK_norm, @blkK_exit⟩⟩, ⟨⟨@blkK_ret, @loopK_norm⟩, ⟨@loopK_exit, @loopK_ret⟩⟩⟩⟩⟩, ⟨⟨⟨⟨@codeK_def, ⟨@retK_exit, @T.get_set⟩⟩, ⟨⟨@T.get_fill0, @List.getElem?_cons_zero.{0}⟩, ⟨@List.getElem?_cons_succ.{0}, @List.getElem?_nil.{0}⟩⟩⟩, ⟨⟨@List.length_cons.{0}, ⟨@List.length_nil.{0}, @Nat.zero_add⟩⟩, ⟨⟨@Nat.add_zero, @and_true⟩, ⟨@true_and, @and_self⟩⟩⟩⟩, ⟨⟨⟨@and_false, ⟨@false_and, @not_true_eq_false⟩⟩, ⟨⟨@not_false_eq_true, @bb_tt⟩, ⟨@bb_tf, @bb_ft⟩⟩⟩, ⟨⟨⟨@bb_ff, @b_eql⟩, ⟨@b_neq, @b_lss⟩⟩, ⟨⟨@b_leq, @b_gtr⟩, ⟨@b_geq, @b_add⟩⟩⟩⟩⟩⟩⟩, ⟨⟨⟨⟨⟨⟨@b_sub, ⟨@b_mul, @lt_nat⟩⟩, ⟨⟨@le_nat, @eq_nat⟩, ⟨@ne_nat, @tmod_nat⟩⟩⟩, ⟨⟨@tdiv_nat, ⟨@cells_bool, @one_bool⟩⟩, ⟨⟨@cells_int, @one_int⟩, ⟨@cells_str, @one_str⟩⟩⟩⟩, ⟨⟨⟨@cells_nilptr, ⟨@one_nilptr, @cells_ptr⟩⟩, ⟨⟨@one_ptr, @cells_nilslice⟩, ⟨@one_nilslice, @cells_slice0⟩⟩⟩, ⟨⟨⟨@one_slice0, @cells_slice⟩, ⟨@one_slice, @cells_nilmap⟩⟩, ⟨⟨@one_nilmap, @cells_map⟩, ⟨@one_map, @cells_func⟩⟩⟩⟩⟩, ⟨⟨⟨⟨@one_func, ⟨@cells_yield, @one_yield⟩⟩, ⟨⟨@cells_nilFunc, @one_nilFunc⟩, ⟨@cells_iface, @one_iface⟩⟩⟩, ⟨⟨@cells_nilIface, ⟨@one_nilIface, @cells_agg⟩⟩, ⟨⟨@hasAll_zero, @hasAll_succ⟩, ⟨@Option.isSome_some.{0}, @Bool.and_self⟩⟩⟩⟩, ⟨⟨⟨@Bool.and_true, ⟨@Bool.true_and, @lenGe_cons⟩⟩, ⟨⟨@lenGe_nil, @List.nil_append.{0}⟩, ⟨@List.append_nil.{0}, @List.cons_append.{0}⟩⟩⟩, ⟨⟨⟨@condW_bool, @ifB_true⟩, ⟨@ifB_false, @Bool.not_true⟩⟩, ⟨⟨@Bool.not_false, @n_eq_add⟩, ⟨@add_eq_n, @add_eq_add⟩⟩⟩⟩⟩⟩, ⟨⟨⟨⟨⟨@Nat.add_assoc, ⟨@nx_sts, @nx_new⟩⟩, ⟨⟨@wrAt_sts, @wrAt_new⟩, ⟨@cellAt_new, @bool_eq_self⟩⟩⟩, ⟨⟨@decide_true, ⟨@decide_false, @List.toList_toArray.{0}⟩⟩, ⟨⟨@retW_eq, @qW_some⟩, ⟨@evalRes_nil, @evalRes_tmp⟩⟩⟩⟩, ⟨⟨⟨@consR_some, ⟨@oneV_one, @oneV_two⟩⟩, ⟨⟨@cellAt_sts, @put_sts⟩, ⟨@Nat.not_lt_zero, @Nat.le_refl⟩⟩⟩, ⟨⟨⟨@Nat.zero_le, @Nat.sub_self⟩, ⟨@Nat.sub_zero, @consL_some⟩⟩, ⟨⟨@seqO_nil, @seqO_cons⟩, ⟨@aggO_some, @build_C⟩⟩⟩⟩⟩, ⟨⟨⟨⟨@buildS_C, ⟨@sliceR_ok, @buildSR_some⟩⟩, ⟨⟨@ex_convert, @bi_min⟩, ⟨@bi_max, @b_eqlS⟩⟩⟩, ⟨⟨@b_neqS, ⟨@eqO_some, @neO_some⟩⟩, ⟨⟨@allOne_nil, @allOne_cons⟩, ⟨@andO_some, @ex_makeSlice⟩⟩⟩⟩, ⟨⟨⟨@List.map_cons.{0,0}, ⟨@List.map_nil.{0,0}, @row_1⟩⟩, ⟨⟨@row_2, @row_3⟩, ⟨@row_4, @row_5⟩⟩⟩, ⟨⟨⟨@row_6, @codeW_ret⟩, ⟨@codeW_skip, @codeW_exit⟩⟩, ⟨⟨@gB_und, @cellR_ptr⟩, ⟨@consV_some, @evalRes_cell⟩⟩⟩⟩⟩⟩⟩⟩
end Go.AX


/-
  AX: walks: rows cut, put into, copied, with their capacity.
  index: slices.Insert.
  index: slices.Insert, whatever the row is.
  AX: walks: a row that grew, in a cell: what comes back, seen with the capacity that it has.
  index: set.
  index: change.
  index: Put, Tomb, Restore.
  index: Restore.
  index: keys that may not be; Len, Of, New, item, Get.
  index: Put, Tomb, Restore at keys that may not be.
  index: from.
  index: Range.
  index: the order of revisions, walked by the kit.
  DERIVED: THE SHELF's CONTRACTS AT THIS DUMP, IN PLAIN WORDS (tools/lay-plain.mjs out of 'YtlkngpckibidlaaShelf.lean', which tools/lay-shelf.mjs wrote): THE SAME DECLARATIONS UNDER THE SAME NAMES: 'import', 'namespace', 'open', 'def', 'theorem' AND NOTHING ELSE: no command of the shelf's: FOR A HAND-IN. Each laying: the table of numbers ('.._ren') and one theorem, a field a fact of the dump's own or the kernel's comparison; each contract: ONE APPLICATION.
  AX: hooks: slices.SortFunc of rows of structs, by the kit's contract.
-/
import Derived.Test.YtlkngpckibidlaaAxI
import Derived.Test.YtlkngpckibidlaaG1
import Derived.ChangeKeysEq
import Derived.WalkKit
import Derived.Lib.Small
import Derived.Sort.Grow
import Derived.StillTailTactics
import Derived.Deep.Draws
import Derived.LoopN
import Derived.Test.YtlkngpckibidlaaProg
import Derived.Shelf.SlSortCmp.NoneTotal
import Derived.Ground.SlsfProg
import Derived.Test.YtlkngpckibidlaaAxH
set_option linter.unusedSimpArgs false
set_option linter.unusedVariables false
set_option linter.unusedSectionVars false
open Nat (reduceLT reduceLeDiff reduceEqDiff reduceAdd reduceMul reduceSub)
namespace Go.AX
noncomputable section
open Go.RowKit
section
variable {P : Program} {h : H} {tm : T AV}
theorem ex_sl_l (t : TypeId) (x a : Operand) : execA P tm h (.slice t x (some a) none none) = ob (evalA tm x) fun v => ob (evalA tm a) fun l => ob (sliceA P t v (some l) none none) fun v => .val v h := by
  simp only [execA, evalO]
  cases evalA tm x with
  | none => cases evalA tm a <;> rfl
  | some v =>
    cases evalA tm a with
    | none => rfl
    | some l => simp only [ob]; cases sliceA P t v (some l) none none <;> rfl
theorem ex_sl_h (t : TypeId) (x a : Operand) : execA P tm h (.slice t x none (some a) none) = ob (evalA tm x) fun v => ob (evalA tm a) fun l => ob (sliceA P t v none (some l) none) fun v => .val v h := by
  simp only [execA, evalO]
  cases evalA tm x with
  | none => cases evalA tm a <;> rfl
  | some v =>
    cases evalA tm a with
    | none => rfl
    | some l => simp only [ob]; cases sliceA P t v none (some l) none <;> rfl
theorem ble_t {a b : Nat} (h : a ≤ b) : Nat.ble a b = true := by rw [Nat.ble_eq]; exact h
theorem ble_f {a b : Nat} (h : b < a) : Nat.ble a b = false := by rw [← Bool.not_eq_true, Nat.ble_eq]; omega
theorem beq_f {a b : Nat} (h : a ≠ b) : Nat.beq a b = false := by
  cases q : Nat.beq a b with
  | false => rfl
  | true => exact absurd (Nat.eq_of_beq_eq_true q) h
theorem sl_ex_l {t e : TypeId} {size : Nat} (hu : P.underlying t = some (.slice e)) (hok : okT P e = true) (hsz : P.cellsOf e = size) (b o len c l : Nat) (kd : IntKind) (hl : l ≤ len) :
    sliceA P t (.slice b o len (.exact c)) (some (.int kd (.ofNat l))) none none = some (.slice b (if c = l then o else o + l * size) (len - l) (.exact (c - l))) := by
  simp only [sliceA, hu, hok, sliceEx, bndO, bnd, ble_t hl, Option.isSome, Bool.false_and, hsz]
  by_cases q : c = l
  · subst q; rw [Nat.beq_refl, if_pos rfl]
  · rw [beq_f q, if_neg q]
theorem sl_ex_h {t e : TypeId} (hu : P.underlying t = some (.slice e)) (hok : okT P e = true) (b o len c l : Nat) (kd : IntKind) (hl : l ≤ c) :
    sliceA P t (.slice b o len (.exact c)) none (some (.int kd (.ofNat l))) none = some (.slice b o l (.exact c)) := by
  simp only [sliceA, hu, hok, sliceEx, bndO, bnd, ble_t hl, Option.isSome, Option.isNone, Bool.and_false, Nat.sub_zero, Nat.zero_mul, Nat.add_zero]
  cases Nat.beq c 0 <;> rfl
theorem sl_op_l {t e : TypeId} {size : Nat} (hu : P.underlying t = some (.slice e)) (hok : okT P e = true) (hsz : P.cellsOf e = size) (b o len i l : Nat) (kd : IntKind) (hl : l < len) :
    sliceA P t (.slice b o len (.opn i)) (some (.int kd (.ofNat l))) none none = some (.slice b (o + l * size) (len - l) (.opn (i + l))) := by
  simp only [sliceA, hu, hok, sliceOp, bndO, bnd, ble_t (show l ≤ len by omega), hsz]
  by_cases q : l = 0
  · subst q; rw [Nat.beq_refl]; simp
  · rw [beq_f q, ble_t (show l + 1 ≤ len by omega)]
theorem bi_cap_ex {t e : TypeId} (hu : P.underlying t = some (.slice e)) (b o n c : Nat) (ts : List TypeId) (xs : List AV) : builtinA P .cap (t :: ts) (.slice b o n (.exact c) :: xs) h = .val (.int .i64 (.ofNat c)) h := by
  simp only [builtinA, capA, hu]
theorem put_any {b o m : Nat} {t : T AV} {k : EK} {l : List AV} (hb : h.t.get b = some (.cells m t k false)) (ho : allOne l = true) (hm : o + l.length ≤ m) :
    ∃ t', h.put b o l = some { h with t := h.t.set b (some (.cells m t' k false)) } ∧ ∀ j, t'.get j = if o ≤ j ∧ j < o + l.length then l[j - o]? else t.get j := by
  unfold H.put
  rw [hb]
  simp only
  cases q : H.putRow t o l with
  | some t' => exact ⟨t', rfl, (putRow_get q).1⟩
  | none =>
    have : (allOne l && Nat.ble (o + lenL l) m) = true := by rw [Bool.and_eq_true, lenL_eq]; exact ⟨ho, ble_t hm⟩
    simp only [this]
    exact ⟨_, rfl, fun j => T.get_fill_at l t o j⟩
def RowB (h : H) (b m size ty : Nat) (cs : List AV) : Prop := b < h.nx ∧ ∃ t, h.t.get b = some (.cells m t ⟨size, ty⟩ false) ∧ ∀ j, j < cs.length → t.get j = cs[j]?
theorem RowB.row {b m size ty : Nat} {cs : List AV} (hr : RowB h b m size ty cs) {o n : Nat} (hn : o + n ≤ cs.length) (h0 : 0 < n) : h.row b o n = some ((cs.drop o).take n) := by
  obtain ⟨-, t, hg, ht⟩ := hr
  have hl : ((cs.drop o).take n).length = n := by rw [List.length_take, List.length_drop]; omega
  have hne : (cs.drop o).take n ≠ [] := fun e => by rw [e] at hl; simp at hl; omega
  have := row_ok (h := h) (b := b) (o := o) (cs := (cs.drop o).take n) (fun i hi => by
    unfold cellAt; rw [hg]
    simp only
    rw [ht _ (by omega), List.getElem?_take, if_pos (by omega), List.getElem?_drop]) hne
  rwa [hl] at this
theorem exW_xcopy {t e : TypeId} {ts : List TypeId} {size : Nat} {bd od nd : Nat} {cd : Cap} {bs os ns : Nat} {cs : Cap} {l : List AV} {md : Nat} {td : T AV} {kd : EK} {n : Nat} {xs : List AV} {K : AV → H → Prop} (hu : P.underlying t = some (.slice e)) (hok : okT P e = true) (hsz : P.cellsOf e = size)
    (hn : Nat.min ns nd = n) (hr : h.row bs os (n * size) = some l) (hb : h.t.get bd = some (.cells md td kd false)) (ho : allOne l = true) (hm : od + l.length ≤ md)
    (hk : ∀ t', (∀ j, t'.get j = if od ≤ j ∧ j < od + l.length then l[j - od]? else td.get j) → K (.int .i64 (.ofNat n)) { h with t := h.t.set bd (some (.cells md t' kd false)) }) :
    exW P (builtinA P .copy (t :: ts) (.slice bd od nd cd :: .slice bs os ns cs :: xs) h) K := by
  obtain ⟨t', hp, ht⟩ := put_any hb ho hm
  have : builtinA P .copy (t :: ts) (.slice bd od nd cd :: .slice bs os ns cs :: xs) h = .val (.int .i64 (.ofNat n)) { h with t := h.t.set bd (some (.cells md t' kd false)) } := by
    simp only [builtinA, hu, copyA, lenOfA, hn, srcA, hsz, hr, hok, hp]
  rw [this]
  exact hk t' ht
theorem exW_xplace {elem : TypeId} {size b o n q c m : Nat} {t : T AV} {k : EK} {new : List AV} {K : AV → H → Prop} (hq : n + q ≤ c) (hl : new.length = q * size) (hb : h.t.get b = some (.cells m t k false)) (hm : o + (n + q) * size ≤ m) (ho : allOne new = true)
    (hk : ∀ t', (∀ j, t'.get j = if o + n * size ≤ j ∧ j < o + n * size + new.length then new[j - (o + n * size)]? else t.get j) → K (.slice b o (n + q) (.exact c)) { h with t := h.t.set b (some (.cells m t' k false)) }) :
    exW P (appendN elem size (.slice b o n (.exact c)) q new h) K := by
  have e : (n + q) * size = n * size + q * size := Nat.add_mul _ _ _
  obtain ⟨t', hp, ht⟩ := put_any (o := o + n * size) hb ho (by omega)
  have e1 : Nat.beq (lenL new) (q * size) = true := by rw [lenL_eq, hl, Nat.beq_refl]
  have : appendN elem size (.slice b o n (.exact c)) q new h = .val (.slice b o (n + q) (.exact c)) { h with t := h.t.set b (some (.cells m t' k false)) } := by
    unfold appendN; simp only [e1, ble_t hq, hp]
  rw [this]
  exact hk t' ht
theorem exW_xgrow {elem : TypeId} {size b o n q c : Nat} {old new : List AV} {K : AV → H → Prop} (hq : c < n + q) (hl : new.length = q * size) (hs : n + q ≤ 4194304) (hr : h.row b o (n * size) = some old)
    (hk : K (.slice h.nx 0 (n + q) (.opn 0)) (h.grown none ⟨size, elem + 1⟩ (old ++ new))) : exW P (appendN elem size (.slice b o n (.exact c)) q new h) K := by
  have e1 : Nat.beq (lenL new) (q * size) = true := by rw [lenL_eq, hl, Nat.beq_refl]
  have e2 : small (n + q) = true := by unfold small; exact ble_t hs
  have : appendN elem size (.slice b o n (.exact c)) q new h = .val (.slice h.nx 0 (n + q) (.opn 0)) (h.grown none ⟨size, elem + 1⟩ (old ++ new)) := by
    unfold appendN; simp only [e1, ble_f hq, e2, hr]
  rw [this]; exact hk
theorem grown_none {k : EK} {l : List AV} (b : Nat) : (h.grown none k l).t.get b = if b = h.nx then some (.cells l.length (T.ofRow l) k false) else h.t.get b := by
  by_cases q : b = h.nx
  · subst q; rw [if_pos rfl, grownL_new]
  · rw [if_neg q]; unfold H.grown; simp only [T.get_set]; rw [if_neg q]
theorem grown_only {k : EK} {l : List AV} : Only h (h.grown none k l) [] := ⟨by rw [grownL_nx]; omega, fun b hb _ => by rw [grown_none, if_neg (by omega)]⟩
end
end
end Go.AX

namespace Go.Proofs.Ytlkngpckibidlaa.X
open Go Go.AX
noncomputable section
set_option maxRecDepth 100000
inductive RowV (h : H) : AV → Nat → List AV → Prop
  | nil : RowV h .nilslice 0 []
  | opn (b n m ty : Nat) (cs : List AV) : 0 < n → cs.length = n * 2 → n * 2 ≤ m → RowB h b m 2 ty cs → RowV h (.slice b 0 n (.opn 0)) n cs
  | exa (b n c ty : Nat) (cs : List AV) : 0 < n → cs.length = n * 2 → n ≤ c → RowB h b (c * 2) 2 ty cs → RowV h (.slice b 0 n (.exact c)) n cs
def Vals (h : H) (s x y v : AV) (h' : H) : Prop := ∀ c m t k r, blkOf v = some c → h'.t.get c = some (.cells m t k r) → ∀ j u, t.get j = some u → (u = x ∨ u = y) ∨ (u = .str [] ∨ u = .nilslice) ∨ ∃ c0 j0, blkOf s = some c0 ∧ cellAt h c0 j0 = some u
theorem zmem {u : AV} : ∀ n, u ∈ repl [AV.str [], .nilslice] n → u = .str [] ∨ u = .nilslice
  | 0, h => by simp [repl] at h
  | n + 1, h => by
    unfold repl at h
    rcases List.mem_append.1 h with q | q
    · simpa using q
    · exact zmem n q
theorem mem2 {x y u : AV} {j : Nat} (h : [x, y][j]? = some u) : u = x ∨ u = y := by
  have := List.mem_of_getElem? h
  simpa using this
def PostIns (h : H) (s x y : AV) (n : Nat) (cs : List AV) (v : AV) (h' : H) : Prop :=
  h.nx ≤ h'.nx ∧ RowV h' v n cs ∧ (∀ b, b < h.nx → blkOf s ≠ some b → h'.t.get b = h.t.get b) ∧ (∀ b, blkOf v = some b → blkOf s = some b ∨ h.nx ≤ b) ∧ Vals h s x y v h'
theorem bi_appZ (h : H) (s : AV) (q : Nat) (hq : q ≤ 4194304) : builtinA P .append [105, 3] [s, .int .i64 (.ofNat q)] h = appendN 114 2 s q (repl [.str [], .nilslice] q) h := by
  have hi : infoOk P 114 2 = true := by kernel_rfl
  have hz : zeroA P 114 = some (.agg [.str [], .nilslice]) := by kernel_rfl
  have u3' : P.underlying 3 = some (.int .i64) := by kernel_rfl
  unfold infoOk at hi
  split at hi
  · rename_i info hinfo
    rw [Bool.and_eq_true] at hi
    have e := Nat.eq_of_beq_eq_true hi.2
    have hs : (appendOk P 114 info && small q) = true := by rw [Bool.and_eq_true]; exact ⟨hi.1, ble_t hq⟩
    simp only [builtinA, u105, u3', appendZ, hinfo, hz, hs, e]
    rfl
  · cases hi
theorem row_zero {h : H} {b m size ty : Nat} {cs : List AV} (hr : RowB h b m size ty cs) (o : Nat) : h.row b o 0 = some [] := by
  obtain ⟨-, t, hg, -⟩ := hr
  unfold H.row; rw [hg]; simp only [loadRow_eq]; rfl
theorem ext96 : ExtIs P 96 (Extern.SlicesOverlaps.overlaps #[105, 105] #[4]) :=
  ⟨Try.f96, Try.func96, by kernel_rfl, by kernel_rfl, by kernel_rfl, by kernel_rfl⟩
theorem over96_ok : HookOk P (overHook 96) := overHook_ok (e := 114) (size := 2) u105 (fun w => by
  have hi : infoOk P 114 2 = true := by kernel_rfl
  have hc : P.cellsOf 114 = 2 := by kernel_rfl
  unfold infoOk at hi
  split at hi
  · rename_i info hinfo
    rw [run_sizeOf w hinfo, hc]
  · cases hi) ext96
theorem callV96 (args : List AV) (h : H) : callV P (.func 96 [] []) args h = .ext 96 args h := by
  have e : enterOk P 96 = false := by kernel_rfl
  simp only [callV, e, List.nil_append, List.append_nil]
theorem exW_over {h : H} {b1 o1 n1 b2 o2 n2 m1 m2 : Nat} {c1 c2 : Cap} {t1 t2 : T AV} {ty : Nat} {k2 : EK} {ro : Bool} {K : AV → H → Prop} (hne : b1 ≠ b2) (h1 : h.t.get b1 = some (.cells m1 t1 ⟨0, ty⟩ false)) (h2 : h.t.get b2 = some (.cells m2 t2 k2 ro)) (hm : m2 ≠ 0)
    (hk : K (.bool false) h) : exW P (callV P (.func 96 [] []) [.slice b1 o1 n1 c1, .slice b2 o2 n2 c2] h) K := by
  rw [callV96, exW_ext]
  refine ⟨overHook 96, .bool false, h, over96_ok, ?_, hk⟩
  unfold overHook
  simp only [overExt, Nat.beq_refl, beq_f hne, h1, h2, beq_f hm]
structure One (h : H) (vb : Nat) (x y : AV) : Prop where
  lt : vb < h.nx
  get : ∃ t ty, h.t.get vb = some (.cells 2 t ⟨0, ty⟩ false)
  c0 : cellAt h vb 0 = some x
  c1 : cellAt h vb 1 = some y
  ox : x.one = true
  oy : y.one = true
def insL (cs : List AV) (i : Nat) (x y : AV) : List AV := cs.take (i * 2) ++ (x :: y :: cs.drop (i * 2))
theorem insL_get {cs : List AV} {n i : Nat} (hl : cs.length = n * 2) (hi : i ≤ n) (x y : AV) (j : Nat) : (insL cs i x y)[j]? = if j < i * 2 then cs[j]? else if j = i * 2 then some x else if j = i * 2 + 1 then some y else cs[j - 2]? := by
  unfold insL
  have ht : (cs.take (i * 2)).length = i * 2 := by rw [List.length_take]; omega
  by_cases q : j < i * 2
  · rw [if_pos q, List.getElem?_append_left (by omega), List.getElem?_take, if_pos q]
  · rw [if_neg q, List.getElem?_append_right (by omega), ht]
    by_cases q1 : j = i * 2
    · rw [if_pos q1, q1, Nat.sub_self]; rfl
    · rw [if_neg q1]
      by_cases q2 : j = i * 2 + 1
      · rw [if_pos q2, q2, show i * 2 + 1 - i * 2 = 1 by omega]; rfl
      · rw [if_neg q2, show j - i * 2 = (j - i * 2 - 2) + 2 by omega]
        simp only [List.getElem?_cons_succ]
        rw [List.getElem?_drop]; congr 1; omega
theorem insL_len {cs : List AV} {n i : Nat} (hl : cs.length = n * 2) (hi : i ≤ n) (x y : AV) : (insL cs i x y).length = (n + 1) * 2 := by
  unfold insL; simp; omega
set_option maxHeartbeats 2000000 in
theorem named {α : Type} (a : α) {p : Prop} (k : ∀ x, x = a → p) : p := k a rfl
theorem insX (h : H) (b n c i vb ty : Nat) (cs : List AV) (x y : AV) (hr : RowB h b (c * 2) 2 ty cs) (hl : cs.length = n * 2) (hall : allOne cs = true) (h0 : 0 < n) (hc : n ≤ c) (hi : i ≤ n) (hv : One h vb x y) (hne : vb ≠ b) (hz : n ≤ 100000) :
    PushC P (.enter 84 [.slice b 0 n (.exact c), .int .i64 (.ofNat i), .slice vb 0 1 (.exact 1)] h) (PostIns h (.slice b 0 n (.exact c)) x y (n + 1) (insL cs i x y)) := by
  obtain ⟨hblt, t, hg, ht⟩ := id hr
  obtain ⟨hvlt, ⟨tv, tyv, hvg⟩, v0, v1, vx, vy⟩ := hv
  have s1 := sl_ex_l (P := P) (e := 114) (size := 2) u105 (by kernel_rfl) (by kernel_rfl) b 0 n c i .i64 hi
  have e1 : decide (1 = 0) = false := rfl
  have old : ∀ j u, t.get j = some u → ∃ c0 j0, blkOf (.slice b 0 n (.exact c)) = some c0 ∧ cellAt h c0 j0 = some u := fun j u e => ⟨b, j, rfl, by unfold cellAt; rw [hg]; exact e⟩
  have oldc : ∀ j u, cs[j]? = some u → ∃ c0 j0, blkOf (.slice b 0 n (.exact c)) = some c0 ∧ cellAt h c0 j0 = some u := fun j u e => old j u (by rw [ht j (List.getElem?_eq_some_iff.1 e).1]; exact e)
  have hxy : allOne [x, y] = true := by simp [allOne, vx, vy]
  refine pushC_of_codeW (fn := Try.f84) (c := bodyC Try.f84) Try.func84 rfl ?_
  show codeW P 84 95 none _ _ _ _ _
  refine codeW_root ?_
  by_cases hin : i = n
  · subst hin
    have d1 : decide (i = i) = true := decide_eq_true rfl
    have hins : insL cs i x y = cs ++ [x, y] := by
      unfold insL; rw [← hl, List.take_length, List.drop_length]
    repeat' (first | ((with_reducible refine st1 ?_); (conv => whnf); (with_reducible refine ⟨?_⟩)) | ((with_reducible refine st_dw ?_ rfl rfl ?_ ?_); exact rfl; kernel_rfl; (conv => arg 5; whnf); (conv => arg 3; whnf)) | ((with_reducible refine retW_intro rfl ?_); (conv => arg 2; whnf)) | ((with_reducible first | refine iB ?_ ?_ | refine gWt ?_ ?_ | refine gWf ?_ ?_ | refine gXt ?_ ?_ | refine gXf ?_ ?_) <;> intro hb <;> (try simp only [hb])) | ((with_reducible show drawI _ _ _ _ _ _ _ _ _); first | ((with_reducible refine kI_rd ?_ ?_); exact rfl) | ((with_reducible apply kI_rg); exact rfl; exact rfl) | ((with_reducible refine kI_cv ?_ ?_ ?_); exact rfl; kernel_rfl) | ((with_reducible apply kI_al); exact rfl; exact rfl) | ((with_reducible refine kI_ex ?_ ?_ ?_ ?_ ?_); exact rfl; kernel_rfl; exact rfl) | ((with_reducible apply kI_eg); exact rfl; kernel_rfl; exact rfl) | ((with_reducible refine kI_nl ?_ ?_))) | ((with_reducible show eOk _ _ _ _ _ _); first | (exact eok_nil) | (refine ke_rd ?_ ?_ ?_; exact rfl) | (apply ke_rg; exact rfl; exact rfl) | (refine ke_cv ?_ ?_ ?_ ?_; exact rfl; kernel_rfl) | (apply ke_al; exact rfl; exact rfl)) | ((with_reducible refine freshIs_new ?_); kernel_rfl) | (simp only [B, xB, F, reduceLT, reduceLeDiff, reduceEqDiff, reduceAdd, reduceMul, reduceSub, ↓reduceIte, eq_self, ex_sl_l, s1, e1, d1, v0, v1]))
    by_cases hcap : i + 1 ≤ c
    · refine exW_xplace (m := c * 2) hcap rfl hg (by omega) hxy (fun t' ht' => ?_)
      repeat' (first | ((with_reducible refine st1 ?_); (conv => whnf); (with_reducible refine ⟨?_⟩)) | ((with_reducible refine st_dw ?_ rfl rfl ?_ ?_); exact rfl; kernel_rfl; (conv => arg 5; whnf); (conv => arg 3; whnf)) | ((with_reducible refine retW_intro rfl ?_); (conv => arg 2; whnf)) | ((with_reducible first | refine iB ?_ ?_ | refine gWt ?_ ?_ | refine gWf ?_ ?_ | refine gXt ?_ ?_ | refine gXf ?_ ?_) <;> intro hb <;> (try simp only [hb])) | ((with_reducible show drawI _ _ _ _ _ _ _ _ _); first | ((with_reducible refine kI_rd ?_ ?_); exact rfl) | ((with_reducible apply kI_rg); exact rfl; exact rfl) | ((with_reducible refine kI_cv ?_ ?_ ?_); exact rfl; kernel_rfl) | ((with_reducible apply kI_al); exact rfl; exact rfl) | ((with_reducible refine kI_ex ?_ ?_ ?_ ?_ ?_); exact rfl; kernel_rfl; exact rfl) | ((with_reducible apply kI_eg); exact rfl; kernel_rfl; exact rfl) | ((with_reducible refine kI_nl ?_ ?_))) | ((with_reducible show eOk _ _ _ _ _ _); first | (exact eok_nil) | (refine ke_rd ?_ ?_ ?_; exact rfl) | (apply ke_rg; exact rfl; exact rfl) | (refine ke_cv ?_ ?_ ?_ ?_; exact rfl; kernel_rfl) | (apply ke_al; exact rfl; exact rfl)) | ((with_reducible refine freshIs_new ?_); kernel_rfl) | (simp only [B, xB, F, reduceLT, reduceLeDiff, reduceEqDiff, reduceAdd, reduceMul, reduceSub, ↓reduceIte, eq_self]))
      refine ⟨Nat.le_refl _, .exa b (i + 1) c ty _ (by omega) (insL_len hl (Nat.le_refl _) x y) hcap ⟨hblt, t', ?_, fun j hj => ?_⟩, fun b' hb' hne' => ?_, fun b' q => .inl q, fun c' m' t2' k' r' q1 q2 j u q3 => ?_⟩
      · show (T.set h.t b _).get b = _
        rw [T.get_set, if_pos rfl]
      · rw [insL_len hl (Nat.le_refl _)] at hj
        rw [ht' j, insL_get hl (Nat.le_refl _)]
        simp only [List.length_cons, List.length_nil, Nat.zero_add]
        by_cases q : j < i * 2
        · rw [if_neg (by omega), if_pos q, ht j (by omega)]
        · rw [if_pos (by omega), if_neg q]
          by_cases q2 : j = i * 2
          · rw [if_pos q2, q2, Nat.sub_self]; rfl
          · rw [if_neg q2, if_pos (by omega), show j - i * 2 = 1 by omega]; rfl
      · show (T.set h.t b _).get b' = _
        rw [T.get_set, if_neg (by rintro rfl; exact hne' rfl)]
      · cases q1
        have q2 : (T.set h.t b _).get b = _ := q2
        rw [T.get_set, if_pos rfl] at q2
        cases q2
        rw [ht' j] at q3
        split at q3
        · exact .inl (mem2 q3)
        · exact .inr (.inr (old j u q3))
    · refine exW_xgrow (by omega) rfl (by omega) (by rw [hr.row (by omega) (by omega), List.drop_zero, ← hl, List.take_length]) ?_
      repeat' (first | ((with_reducible refine st1 ?_); (conv => whnf); (with_reducible refine ⟨?_⟩)) | ((with_reducible refine st_dw ?_ rfl rfl ?_ ?_); exact rfl; kernel_rfl; (conv => arg 5; whnf); (conv => arg 3; whnf)) | ((with_reducible refine retW_intro rfl ?_); (conv => arg 2; whnf)) | ((with_reducible first | refine iB ?_ ?_ | refine gWt ?_ ?_ | refine gWf ?_ ?_ | refine gXt ?_ ?_ | refine gXf ?_ ?_) <;> intro hb <;> (try simp only [hb])) | ((with_reducible show drawI _ _ _ _ _ _ _ _ _); first | ((with_reducible refine kI_rd ?_ ?_); exact rfl) | ((with_reducible apply kI_rg); exact rfl; exact rfl) | ((with_reducible refine kI_cv ?_ ?_ ?_); exact rfl; kernel_rfl) | ((with_reducible apply kI_al); exact rfl; exact rfl) | ((with_reducible refine kI_ex ?_ ?_ ?_ ?_ ?_); exact rfl; kernel_rfl; exact rfl) | ((with_reducible apply kI_eg); exact rfl; kernel_rfl; exact rfl) | ((with_reducible refine kI_nl ?_ ?_))) | ((with_reducible show eOk _ _ _ _ _ _); first | (exact eok_nil) | (refine ke_rd ?_ ?_ ?_; exact rfl) | (apply ke_rg; exact rfl; exact rfl) | (refine ke_cv ?_ ?_ ?_ ?_; exact rfl; kernel_rfl) | (apply ke_al; exact rfl; exact rfl)) | ((with_reducible refine freshIs_new ?_); kernel_rfl) | (simp only [B, xB, F, reduceLT, reduceLeDiff, reduceEqDiff, reduceAdd, reduceMul, reduceSub, ↓reduceIte, eq_self]))
      refine ⟨grown_only.1, .opn h.nx (i + 1) _ 115 _ (by omega) (insL_len hl (Nat.le_refl _) x y) (Nat.le_refl _) ⟨by rw [grownL_nx]; omega, T.ofRow (cs ++ [x, y]), ?_, fun j hj => ?_⟩, fun b' hb' hne' => ?_, fun b' q => by cases q; exact .inr (Nat.le_refl _), fun c' m' t2' k' r' q1 q2 j u q3 => ?_⟩
      · rw [grown_none, if_pos rfl]
        congr 2
        simp; omega
      · rw [T.get_ofRow, hins]
      · rw [grown_none, if_neg (by omega)]
      · cases q1
        rw [grown_none, if_pos rfl] at q2
        cases q2
        rw [T.get_ofRow] at q3
        rcases List.mem_append.1 (List.mem_of_getElem? q3) with q4 | q4
        · obtain ⟨j', q5⟩ := List.getElem?_of_mem q4
          exact .inr (.inr (oldc j' u q5))
        · exact .inl (by simpa using q4)
  · have hlt : i < n := by omega
    have d1 : decide (i = n) = false := decide_eq_false hin
    have w1 : wrapF .i64 (Int.ofNat n + Int.ofNat 1) = Int.ofNat (n + 1) := i64_add (by omega)
    have w2 : wrapF .i64 (Int.ofNat i + Int.ofNat 1) = Int.ofNat (i + 1) := i64_add (by omega)
    have cap1 := fun (h : H) ts xs => bi_cap_ex (P := P) (h := h) u105 b 0 n c ts xs
    have s1' : ∀ (h : H), True := fun _ => trivial
    by_cases hcap : n + 1 ≤ c
    · -- in place
      have d2 : decide (c < n + 1) = false := decide_eq_false (by omega)
      have s2 := sl_ex_h (P := P) (e := 114) u105 (by kernel_rfl) b 0 n c (n + 1) .i64 hcap
      have s3 := sl_ex_l (P := P) (e := 114) (size := 2) u105 (by kernel_rfl) (by kernel_rfl) b 0 (n + 1) c (i + 1) .i64 (by omega)
      have s4 := sl_ex_l (P := P) (e := 114) (size := 2) u105 (by kernel_rfl) (by kernel_rfl) b 0 (n + 1) c i .i64 (by omega)
      rw [if_neg (by omega)] at s3 s4
      repeat' (first | ((with_reducible refine st1 ?_); (conv => whnf); (with_reducible refine ⟨?_⟩)) | ((with_reducible refine st_dw ?_ rfl rfl ?_ ?_); exact rfl; kernel_rfl; (conv => arg 5; whnf); (conv => arg 3; whnf)) | ((with_reducible refine retW_intro rfl ?_); (conv => arg 2; whnf)) | ((with_reducible first | refine iB ?_ ?_ | refine gWt ?_ ?_ | refine gWf ?_ ?_ | refine gXt ?_ ?_ | refine gXf ?_ ?_) <;> intro hb <;> (try simp only [hb])) | ((with_reducible show drawI _ _ _ _ _ _ _ _ _); first | ((with_reducible refine kI_rd ?_ ?_); exact rfl) | ((with_reducible apply kI_rg); exact rfl; exact rfl) | ((with_reducible refine kI_cv ?_ ?_ ?_); exact rfl; kernel_rfl) | ((with_reducible apply kI_al); exact rfl; exact rfl) | ((with_reducible refine kI_ex ?_ ?_ ?_ ?_ ?_); exact rfl; kernel_rfl; exact rfl) | ((with_reducible apply kI_eg); exact rfl; kernel_rfl; exact rfl) | ((with_reducible refine kI_nl ?_ ?_))) | ((with_reducible show eOk _ _ _ _ _ _); first | (exact eok_nil) | (refine ke_rd ?_ ?_ ?_; exact rfl) | (apply ke_rg; exact rfl; exact rfl) | (refine ke_cv ?_ ?_ ?_ ?_; exact rfl; kernel_rfl) | (apply ke_al; exact rfl; exact rfl)) | ((with_reducible refine freshIs_new ?_); kernel_rfl) | (simp only [B, xB, F, reduceLT, reduceLeDiff, reduceEqDiff, reduceAdd, reduceMul, reduceSub, ↓reduceIte, eq_self, ex_sl_l, ex_sl_h, s1, s2, s3, s4, e1, d1, d2, w1, w2, cap1]))
      refine exW_over (m1 := 2) (m2 := c * 2) hne hvg hg (by omega) ?_
      have hrow := hr.row (o := i * 2) (n := (n - i) * 2) (by omega) (by omega)
      rw [show (cs.drop (i * 2)).take ((n - i) * 2) = cs.drop (i * 2) from List.take_of_length_le (by simp; omega)] at hrow
      have hall2 : allOne (cs.drop (i * 2)) = true := allOne_iff.2 fun v hv => allOne_iff.1 hall v (List.mem_of_mem_drop hv)
      have hdl : (cs.drop (i * 2)).length = (n - i) * 2 := by rw [List.length_drop]; omega
      repeat' (first | ((with_reducible refine st1 ?_); (conv => whnf); (with_reducible refine ⟨?_⟩)) | ((with_reducible refine st_dw ?_ rfl rfl ?_ ?_); exact rfl; kernel_rfl; (conv => arg 5; whnf); (conv => arg 3; whnf)) | ((with_reducible refine retW_intro rfl ?_); (conv => arg 2; whnf)) | ((with_reducible first | refine iB ?_ ?_ | refine gWt ?_ ?_ | refine gWf ?_ ?_ | refine gXt ?_ ?_ | refine gXf ?_ ?_) <;> intro hb <;> (try simp only [hb])) | ((with_reducible show drawI _ _ _ _ _ _ _ _ _); first | ((with_reducible refine kI_rd ?_ ?_); exact rfl) | ((with_reducible apply kI_rg); exact rfl; exact rfl) | ((with_reducible refine kI_cv ?_ ?_ ?_); exact rfl; kernel_rfl) | ((with_reducible apply kI_al); exact rfl; exact rfl) | ((with_reducible refine kI_ex ?_ ?_ ?_ ?_ ?_); exact rfl; kernel_rfl; exact rfl) | ((with_reducible apply kI_eg); exact rfl; kernel_rfl; exact rfl) | ((with_reducible refine kI_nl ?_ ?_))) | ((with_reducible show eOk _ _ _ _ _ _); first | (exact eok_nil) | (refine ke_rd ?_ ?_ ?_; exact rfl) | (apply ke_rg; exact rfl; exact rfl) | (refine ke_cv ?_ ?_ ?_ ?_; exact rfl; kernel_rfl) | (apply ke_al; exact rfl; exact rfl)) | ((with_reducible refine freshIs_new ?_); kernel_rfl) | (simp only [B, xB, F, reduceLT, reduceLeDiff, reduceEqDiff, reduceAdd, reduceMul, reduceSub, ↓reduceIte, eq_self, ex_sl_l, ex_sl_h, s3, s4, w2, Bool.not_false]))
      refine exW_xcopy (e := 114) (size := 2) (n := n - i) u105 (by kernel_rfl) (by kernel_rfl) (by show min _ _ = _; omega) hrow hg hall2 (by rw [hdl]; omega) (fun t1 ht1 => ?_)
      obtain ⟨h1, h1e⟩ : ∃ h1 : H, h1 = { h with t := h.t.set b (some (.cells (c * 2) t1 ⟨2, ty⟩ false)) } := ⟨_, rfl⟩
      have g1 : ∀ b', h1.t.get b' = if b' = b then some (.cells (c * 2) t1 ⟨2, ty⟩ false) else h.t.get b' := fun b' => by rw [h1e]; exact T.get_set _ _ _ _
      have gb1 : h1.t.get b = some (.cells (c * 2) t1 ⟨2, ty⟩ false) := by rw [g1, if_pos rfl]
      have gv1 : h1.t.get vb = h.t.get vb := by rw [g1, if_neg hne]
      have rv : h1.row vb 0 2 = some [x, y] := by
        rw [row_2, cellAt_of_get gv1, cellAt_of_get gv1]
        simp only [Nat.zero_add, v0, v1]; rfl
      have x1 : h1.nx = h.nx := by rw [h1e]
      rw [← h1e]
      repeat' (first | ((with_reducible refine st1 ?_); (conv => whnf); (with_reducible refine ⟨?_⟩)) | ((with_reducible refine st_dw ?_ rfl rfl ?_ ?_); exact rfl; kernel_rfl; (conv => arg 5; whnf); (conv => arg 3; whnf)) | ((with_reducible refine retW_intro rfl ?_); (conv => arg 2; whnf)) | ((with_reducible first | refine iB ?_ ?_ | refine gWt ?_ ?_ | refine gWf ?_ ?_ | refine gXt ?_ ?_ | refine gXf ?_ ?_) <;> intro hb <;> (try simp only [hb])) | ((with_reducible show drawI _ _ _ _ _ _ _ _ _); first | ((with_reducible refine kI_rd ?_ ?_); exact rfl) | ((with_reducible apply kI_rg); exact rfl; exact rfl) | ((with_reducible refine kI_cv ?_ ?_ ?_); exact rfl; kernel_rfl) | ((with_reducible apply kI_al); exact rfl; exact rfl) | ((with_reducible refine kI_ex ?_ ?_ ?_ ?_ ?_); exact rfl; kernel_rfl; exact rfl) | ((with_reducible apply kI_eg); exact rfl; kernel_rfl; exact rfl) | ((with_reducible refine kI_nl ?_ ?_))) | ((with_reducible show eOk _ _ _ _ _ _); first | (exact eok_nil) | (refine ke_rd ?_ ?_ ?_; exact rfl) | (apply ke_rg; exact rfl; exact rfl) | (refine ke_cv ?_ ?_ ?_ ?_; exact rfl; kernel_rfl) | (apply ke_al; exact rfl; exact rfl)) | ((with_reducible refine freshIs_new ?_); kernel_rfl) | (simp only [B, xB, F, reduceLT, reduceLeDiff, reduceEqDiff, reduceAdd, reduceMul, reduceSub, ↓reduceIte, eq_self, ex_sl_l, ex_sl_h, s3, s4, w2, Bool.not_false]))
      refine exW_xcopy (e := 114) (size := 2) (n := 1) (l := [x, y]) u105 (by kernel_rfl) (by kernel_rfl) (by show min _ _ = _; omega) rv gb1 hxy (by simp; omega) (fun t2 ht2 => ?_)
      repeat' (first | ((with_reducible refine st1 ?_); (conv => whnf); (with_reducible refine ⟨?_⟩)) | ((with_reducible refine st_dw ?_ rfl rfl ?_ ?_); exact rfl; kernel_rfl; (conv => arg 5; whnf); (conv => arg 3; whnf)) | ((with_reducible refine retW_intro rfl ?_); (conv => arg 2; whnf)) | ((with_reducible first | refine iB ?_ ?_ | refine gWt ?_ ?_ | refine gWf ?_ ?_ | refine gXt ?_ ?_ | refine gXf ?_ ?_) <;> intro hb <;> (try simp only [hb])) | ((with_reducible show drawI _ _ _ _ _ _ _ _ _); first | ((with_reducible refine kI_rd ?_ ?_); exact rfl) | ((with_reducible apply kI_rg); exact rfl; exact rfl) | ((with_reducible refine kI_cv ?_ ?_ ?_); exact rfl; kernel_rfl) | ((with_reducible apply kI_al); exact rfl; exact rfl) | ((with_reducible refine kI_ex ?_ ?_ ?_ ?_ ?_); exact rfl; kernel_rfl; exact rfl) | ((with_reducible apply kI_eg); exact rfl; kernel_rfl; exact rfl) | ((with_reducible refine kI_nl ?_ ?_))) | ((with_reducible show eOk _ _ _ _ _ _); first | (exact eok_nil) | (refine ke_rd ?_ ?_ ?_; exact rfl) | (apply ke_rg; exact rfl; exact rfl) | (refine ke_cv ?_ ?_ ?_ ?_; exact rfl; kernel_rfl) | (apply ke_al; exact rfl; exact rfl)) | ((with_reducible refine freshIs_new ?_); kernel_rfl) | (simp only [B, xB, F, reduceLT, reduceLeDiff, reduceEqDiff, reduceAdd, reduceMul, reduceSub, ↓reduceIte, eq_self, ex_sl_l, ex_sl_h, s3, s4, w2]))
      refine ⟨Nat.le_of_eq x1.symm, .exa b (n + 1) c ty _ (by omega) (insL_len hl hi x y) hcap ⟨by show b < h1.nx; omega, t2, ?_, fun j hj => ?_⟩, fun b' hb' hne' => ?_, fun b' q => .inl q, fun c' m' t2' k' r' q1 q2 j u q3 => ?_⟩
      · show (T.set h1.t b _).get b = _
        rw [T.get_set, if_pos rfl]
      · rw [insL_len hl hi] at hj
        rw [ht2 j, insL_get hl hi, ht1 j]
        simp only [List.length_cons, List.length_nil, Nat.zero_add, hdl]
        by_cases q : j < i * 2
        · rw [if_neg (by omega), if_neg (by omega), if_pos q, ht j (by omega)]
        · rw [if_neg q]
          by_cases q2 : j = i * 2
          · rw [if_pos q2, if_pos (by omega), q2, Nat.sub_self]; rfl
          · rw [if_neg q2]
            by_cases q3 : j = i * 2 + 1
            · rw [if_pos q3, if_pos (by omega), q3, show i * 2 + 1 - i * 2 = 1 by omega]; rfl
            · rw [if_neg q3, if_neg (by omega), if_pos (by omega), List.getElem?_drop, show i * 2 + (j - (i + 1) * 2) = j - 2 by omega]
      · show (T.set h1.t b _).get b' = _
        have hbb : b' ≠ b := by rintro rfl; exact hne' rfl
        rw [T.get_set, if_neg hbb, g1, if_neg hbb]
      · cases q1
        have q2 : (T.set h1.t b _).get b = _ := q2
        rw [T.get_set, if_pos rfl] at q2
        cases q2
        rw [ht2 j] at q3
        split at q3
        · exact .inl (mem2 q3)
        · rw [ht1 j] at q3
          split at q3
          · rw [List.getElem?_drop] at q3
            exact .inr (.inr (oldc _ u q3))
          · exact .inr (.inr (old j u q3))
    · -- a new row
      have d2 : decide (c < n + 1) = true := decide_eq_true (by omega)
      have s2 := sl_ex_h (P := P) (e := 114) u105 (by kernel_rfl) b 0 n c i .i64 (by omega)
      have w3 : wrapF .i64 (Int.ofNat (n + 1) - Int.ofNat i) = Int.ofNat (n + 1 - i) := i64_sub (by omega) (by omega)
      have az := fun (h : H) s => bi_appZ h s (n + 1 - i) (by omega)
      repeat' (first | ((with_reducible refine st1 ?_); (conv => whnf); (with_reducible refine ⟨?_⟩)) | ((with_reducible refine st_dw ?_ rfl rfl ?_ ?_); exact rfl; kernel_rfl; (conv => arg 5; whnf); (conv => arg 3; whnf)) | ((with_reducible refine retW_intro rfl ?_); (conv => arg 2; whnf)) | ((with_reducible first | refine iB ?_ ?_ | refine gWt ?_ ?_ | refine gWf ?_ ?_ | refine gXt ?_ ?_ | refine gXf ?_ ?_) <;> intro hb <;> (try simp only [hb])) | ((with_reducible show drawI _ _ _ _ _ _ _ _ _); first | ((with_reducible refine kI_rd ?_ ?_); exact rfl) | ((with_reducible apply kI_rg); exact rfl; exact rfl) | ((with_reducible refine kI_cv ?_ ?_ ?_); exact rfl; kernel_rfl) | ((with_reducible apply kI_al); exact rfl; exact rfl) | ((with_reducible refine kI_ex ?_ ?_ ?_ ?_ ?_); exact rfl; kernel_rfl; exact rfl) | ((with_reducible apply kI_eg); exact rfl; kernel_rfl; exact rfl) | ((with_reducible refine kI_nl ?_ ?_))) | ((with_reducible show eOk _ _ _ _ _ _); first | (exact eok_nil) | (refine ke_rd ?_ ?_ ?_; exact rfl) | (apply ke_rg; exact rfl; exact rfl) | (refine ke_cv ?_ ?_ ?_ ?_; exact rfl; kernel_rfl) | (apply ke_al; exact rfl; exact rfl)) | ((with_reducible refine freshIs_new ?_); kernel_rfl) | (simp only [B, xB, F, reduceLT, reduceLeDiff, reduceEqDiff, reduceAdd, reduceMul, reduceSub, ↓reduceIte, eq_self, ex_sl_l, ex_sl_h, s1, s2, e1, d1, d2, w1, w2, w3, cap1, az]))
      have hrow0 : h.row b 0 (i * 2) = some (cs.take (i * 2)) := by
        by_cases q : i = 0
        · subst q; rw [Nat.zero_mul, row_zero hr]; rfl
        · rw [hr.row (by omega) (by omega), List.drop_zero]
      have hzl : (repl [AV.str [], .nilslice] (n + 1 - i)).length = (n + 1 - i) * 2 := by rw [repl_len]; rfl
      refine exW_xgrow (by omega) hzl (by omega) hrow0 ?_
      rw [show i + (n + 1 - i) = n + 1 by omega]
      obtain ⟨zs, hzs⟩ : ∃ zs, zs = repl [AV.str [], .nilslice] (n + 1 - i) := ⟨_, rfl⟩
      rw [← hzs] at hzl ⊢
      obtain ⟨h1, h1e⟩ : ∃ h1, h1 = h.grown none ⟨2, 115⟩ (cs.take (i * 2) ++ zs) := ⟨_, rfl⟩
      have htl : (cs.take (i * 2)).length = i * 2 := by rw [List.length_take]; omega
      have hll : (cs.take (i * 2) ++ zs).length = (n + 1) * 2 := by rw [List.length_append, htl, hzl]; omega
      have g1 : ∀ b', h1.t.get b' = if b' = h.nx then some (.cells ((n + 1) * 2) (T.ofRow (cs.take (i * 2) ++ zs)) ⟨2, 115⟩ false) else h.t.get b' := fun b' => by rw [h1e, grown_none, hll]
      have x1 : h1.nx = h.nx + 1 := by rw [h1e, grownL_nx]
      have gn1 : h1.t.get h.nx = some (.cells ((n + 1) * 2) (T.ofRow (cs.take (i * 2) ++ zs)) ⟨2, 115⟩ false) := by rw [g1, if_pos rfl]
      have gv1 : h1.t.get vb = h.t.get vb := by rw [g1, if_neg (by omega)]
      have rv : h1.row vb 0 2 = some [x, y] := by
        rw [row_2, cellAt_of_get gv1, cellAt_of_get gv1]
        simp only [Nat.zero_add, v0, v1]; rfl
      have s5 := sl_op_l (P := P) (e := 114) (size := 2) u105 (by kernel_rfl) (by kernel_rfl) h.nx 0 (n + 1) 0 i .i64 (by omega)
      have s6 := sl_op_l (P := P) (e := 114) (size := 2) u105 (by kernel_rfl) (by kernel_rfl) h.nx 0 (n + 1) 0 (i + 1) .i64 (by omega)
      rw [← h1e]
      repeat' (first | ((with_reducible refine st1 ?_); (conv => whnf); (with_reducible refine ⟨?_⟩)) | ((with_reducible refine st_dw ?_ rfl rfl ?_ ?_); exact rfl; kernel_rfl; (conv => arg 5; whnf); (conv => arg 3; whnf)) | ((with_reducible refine retW_intro rfl ?_); (conv => arg 2; whnf)) | ((with_reducible first | refine iB ?_ ?_ | refine gWt ?_ ?_ | refine gWf ?_ ?_ | refine gXt ?_ ?_ | refine gXf ?_ ?_) <;> intro hb <;> (try simp only [hb])) | ((with_reducible show drawI _ _ _ _ _ _ _ _ _); first | ((with_reducible refine kI_rd ?_ ?_); exact rfl) | ((with_reducible apply kI_rg); exact rfl; exact rfl) | ((with_reducible refine kI_cv ?_ ?_ ?_); exact rfl; kernel_rfl) | ((with_reducible apply kI_al); exact rfl; exact rfl) | ((with_reducible refine kI_ex ?_ ?_ ?_ ?_ ?_); exact rfl; kernel_rfl; exact rfl) | ((with_reducible apply kI_eg); exact rfl; kernel_rfl; exact rfl) | ((with_reducible refine kI_nl ?_ ?_))) | ((with_reducible show eOk _ _ _ _ _ _); first | (exact eok_nil) | (refine ke_rd ?_ ?_ ?_; exact rfl) | (apply ke_rg; exact rfl; exact rfl) | (refine ke_cv ?_ ?_ ?_ ?_; exact rfl; kernel_rfl) | (apply ke_al; exact rfl; exact rfl)) | ((with_reducible refine freshIs_new ?_); kernel_rfl) | (simp only [B, xB, F, reduceLT, reduceLeDiff, reduceEqDiff, reduceAdd, reduceMul, reduceSub, ↓reduceIte, eq_self, ex_sl_l, ex_sl_h, s5, w2]))
      refine exW_xcopy (e := 114) (size := 2) (n := 1) (l := [x, y]) u105 (by kernel_rfl) (by kernel_rfl) (by show min _ _ = _; omega) rv gn1 hxy (by simp; omega) (fun t1 ht1 => ?_)
      with_reducible refine named ({ h1 with t := h1.t.set h.nx (some (.cells ((n + 1) * 2) t1 ⟨2, 115⟩ false)) } : H) (fun h2 h2e => ?_)
      have g2 : ∀ b', h2.t.get b' = if b' = h.nx then some (.cells ((n + 1) * 2) t1 ⟨2, 115⟩ false) else h.t.get b' := fun b' => by
        rw [h2e]
        show (T.set h1.t h.nx _).get b' = _
        rw [T.get_set]
        by_cases q : b' = h.nx
        · rw [if_pos q, if_pos q]
        · rw [if_neg q, if_neg q, g1, if_neg q]
      have x2 : h2.nx = h.nx + 1 := by rw [h2e]; exact x1
      have hr2 : RowB h2 b (c * 2) 2 ty cs := ⟨by omega, t, by rw [g2, if_neg (by omega)]; exact hg, ht⟩
      have hrow := hr2.row (o := i * 2) (n := (n - i) * 2) (by omega) (by omega)
      rw [show (cs.drop (i * 2)).take ((n - i) * 2) = cs.drop (i * 2) from List.take_of_length_le (by simp; omega)] at hrow
      have hall2 : allOne (cs.drop (i * 2)) = true := allOne_iff.2 fun v hv => allOne_iff.1 hall v (List.mem_of_mem_drop hv)
      have hdl : (cs.drop (i * 2)).length = (n - i) * 2 := by rw [List.length_drop]; omega
      have gn2 : h2.t.get h.nx = some (.cells ((n + 1) * 2) t1 ⟨2, 115⟩ false) := by rw [g2, if_pos rfl]
      rw [if_neg (by omega)] at s1
      rw [← h2e]
      repeat' (first | ((with_reducible refine st1 ?_); (conv => whnf); (with_reducible refine ⟨?_⟩)) | ((with_reducible refine st_dw ?_ rfl rfl ?_ ?_); exact rfl; kernel_rfl; (conv => arg 5; whnf); (conv => arg 3; whnf)) | ((with_reducible refine retW_intro rfl ?_); (conv => arg 2; whnf)) | ((with_reducible first | refine iB ?_ ?_ | refine gWt ?_ ?_ | refine gWf ?_ ?_ | refine gXt ?_ ?_ | refine gXf ?_ ?_) <;> intro hb <;> (try simp only [hb])) | ((with_reducible show drawI _ _ _ _ _ _ _ _ _); first | ((with_reducible refine kI_rd ?_ ?_); exact rfl) | ((with_reducible apply kI_rg); exact rfl; exact rfl) | ((with_reducible refine kI_cv ?_ ?_ ?_); exact rfl; kernel_rfl) | ((with_reducible apply kI_al); exact rfl; exact rfl) | ((with_reducible refine kI_ex ?_ ?_ ?_ ?_ ?_); exact rfl; kernel_rfl; exact rfl) | ((with_reducible apply kI_eg); exact rfl; kernel_rfl; exact rfl) | ((with_reducible refine kI_nl ?_ ?_))) | ((with_reducible show eOk _ _ _ _ _ _); first | (exact eok_nil) | (refine ke_rd ?_ ?_ ?_; exact rfl) | (apply ke_rg; exact rfl; exact rfl) | (refine ke_cv ?_ ?_ ?_ ?_; exact rfl; kernel_rfl) | (apply ke_al; exact rfl; exact rfl)) | ((with_reducible refine freshIs_new ?_); kernel_rfl) | (simp only [B, xB, F, reduceLT, reduceLeDiff, reduceEqDiff, reduceAdd, reduceMul, reduceSub, ↓reduceIte, eq_self, ex_sl_l, ex_sl_h, s1, s6, w2]))
      refine exW_xcopy (e := 114) (size := 2) (n := n - i) u105 (by kernel_rfl) (by kernel_rfl) (by show min _ _ = _; omega) hrow gn2 hall2 (by rw [hdl]; omega) (fun t2 ht2 => ?_)
      repeat' (first | ((with_reducible refine st1 ?_); (conv => whnf); (with_reducible refine ⟨?_⟩)) | ((with_reducible refine st_dw ?_ rfl rfl ?_ ?_); exact rfl; kernel_rfl; (conv => arg 5; whnf); (conv => arg 3; whnf)) | ((with_reducible refine retW_intro rfl ?_); (conv => arg 2; whnf)) | ((with_reducible first | refine iB ?_ ?_ | refine gWt ?_ ?_ | refine gWf ?_ ?_ | refine gXt ?_ ?_ | refine gXf ?_ ?_) <;> intro hb <;> (try simp only [hb])) | ((with_reducible show drawI _ _ _ _ _ _ _ _ _); first | ((with_reducible refine kI_rd ?_ ?_); exact rfl) | ((with_reducible apply kI_rg); exact rfl; exact rfl) | ((with_reducible refine kI_cv ?_ ?_ ?_); exact rfl; kernel_rfl) | ((with_reducible apply kI_al); exact rfl; exact rfl) | ((with_reducible refine kI_ex ?_ ?_ ?_ ?_ ?_); exact rfl; kernel_rfl; exact rfl) | ((with_reducible apply kI_eg); exact rfl; kernel_rfl; exact rfl) | ((with_reducible refine kI_nl ?_ ?_))) | ((with_reducible show eOk _ _ _ _ _ _); first | (exact eok_nil) | (refine ke_rd ?_ ?_ ?_; exact rfl) | (apply ke_rg; exact rfl; exact rfl) | (refine ke_cv ?_ ?_ ?_ ?_; exact rfl; kernel_rfl) | (apply ke_al; exact rfl; exact rfl)) | ((with_reducible refine freshIs_new ?_); kernel_rfl) | (simp only [B, xB, F, reduceLT, reduceLeDiff, reduceEqDiff, reduceAdd, reduceMul, reduceSub, ↓reduceIte, eq_self]))
      refine ⟨by show h.nx ≤ h2.nx; omega, .opn h.nx (n + 1) ((n + 1) * 2) 115 _ (by omega) (insL_len hl hi x y) (Nat.le_refl _) ⟨by show h.nx < h2.nx; omega, t2, ?_, fun j hj => ?_⟩, fun b' hb' hne' => ?_, fun b' q => by cases q; exact .inr (Nat.le_refl _), fun c' m' t2' k' r' q1 q2 j u q3 => ?_⟩
      · show (T.set h2.t h.nx _).get h.nx = _
        rw [T.get_set, if_pos rfl]
      · rw [insL_len hl hi] at hj
        rw [ht2 j, insL_get hl hi, ht1 j, T.get_ofRow]
        simp only [List.length_cons, List.length_nil, Nat.zero_add, hdl]
        by_cases q : j < i * 2
        · rw [if_neg (by omega), if_neg (by omega), if_pos q, List.getElem?_append_left (by omega), List.getElem?_take, if_pos q]
        · rw [if_neg q]
          by_cases q2 : j = i * 2
          · rw [if_pos q2, if_neg (by omega), if_pos (by omega), q2, Nat.sub_self]; rfl
          · rw [if_neg q2]
            by_cases q3 : j = i * 2 + 1
            · rw [if_pos q3, if_neg (by omega), if_pos (by omega), q3, show i * 2 + 1 - i * 2 = 1 by omega]; rfl
            · rw [if_neg q3, if_pos (by omega), List.getElem?_drop, show i * 2 + (j - (i + 1) * 2) = j - 2 by omega]
      · show (T.set h2.t h.nx _).get b' = _
        rw [T.get_set, if_neg (by omega), g2, if_neg (by omega)]
      · cases q1
        have q2 : (T.set h2.t h.nx _).get h.nx = _ := q2
        rw [T.get_set, if_pos rfl] at q2
        cases q2
        rw [ht2 j] at q3
        split at q3
        · rw [List.getElem?_drop] at q3
          exact .inr (.inr (oldc _ u q3))
        · rw [ht1 j] at q3
          split at q3
          · exact .inl (mem2 q3)
          · rw [T.get_ofRow] at q3
            rcases List.mem_append.1 (List.mem_of_getElem? q3) with q4 | q4
            · obtain ⟨j', q5⟩ := List.getElem?_of_mem (List.mem_of_mem_take q4)
              exact .inr (.inr (oldc j' u q5))
            · exact .inr (.inl (zmem _ (hzs ▸ q4)))
end
end Go.Proofs.Ytlkngpckibidlaa.X

namespace Go.Proofs.Ytlkngpckibidlaa.X
open Go Go.AX
noncomputable section
set_option maxRecDepth 100000
theorem insNil (h : H) (vb : Nat) (x y : AV) (hv : One h vb x y) :
    PushC P (.enter 84 [.nilslice, .int .i64 (.ofNat 0), .slice vb 0 1 (.exact 1)] h) (PostIns h .nilslice x y 1 [x, y]) := by
  obtain ⟨hvlt, ⟨tv, tyv, hvg⟩, v0, v1, vx, vy⟩ := hv
  have e1 : decide (1 = 0) = false := rfl
  have e2 : decide (0 = 0) = true := rfl
  have s0 : sliceA P 105 .nilslice (some (.int .i64 (.ofNat 0))) none none = some .nilslice := by kernel_rfl
  obtain ⟨v', h', e, hg, hx, hf, hbv⟩ := appendN_grows (elem := 114) (size := 2) (base := h.nx) (h := h) (new := [x, y]) (m := 1) (Grows.none) (Nat.le_refl _) (by omega) (by omega) rfl (by omega)
  refine pushC_of_codeW (fn := Try.f84) (c := bodyC Try.f84) Try.func84 rfl ?_
  show codeW P 84 95 none _ _ _ _ _
  refine codeW_root ?_
  repeat' (first | ((with_reducible refine st1 ?_); (conv => whnf); (with_reducible refine ⟨?_⟩)) | ((with_reducible refine st_dw ?_ rfl rfl ?_ ?_); exact rfl; kernel_rfl; (conv => arg 5; whnf); (conv => arg 3; whnf)) | ((with_reducible refine retW_intro rfl ?_); (conv => arg 2; whnf)) | ((with_reducible first | refine iB ?_ ?_ | refine gWt ?_ ?_ | refine gWf ?_ ?_ | refine gXt ?_ ?_ | refine gXf ?_ ?_) <;> intro hb <;> (try simp only [hb])) | ((with_reducible show drawI _ _ _ _ _ _ _ _ _); first | ((with_reducible refine kI_rd ?_ ?_); exact rfl) | ((with_reducible apply kI_rg); exact rfl; exact rfl) | ((with_reducible refine kI_cv ?_ ?_ ?_); exact rfl; kernel_rfl) | ((with_reducible apply kI_al); exact rfl; exact rfl) | ((with_reducible refine kI_ex ?_ ?_ ?_ ?_ ?_); exact rfl; kernel_rfl; exact rfl) | ((with_reducible apply kI_eg); exact rfl; kernel_rfl; exact rfl) | ((with_reducible refine kI_nl ?_ ?_))) | ((with_reducible show eOk _ _ _ _ _ _); first | (exact eok_nil) | (refine ke_rd ?_ ?_ ?_; exact rfl) | (apply ke_rg; exact rfl; exact rfl) | (refine ke_cv ?_ ?_ ?_ ?_; exact rfl; kernel_rfl) | (apply ke_al; exact rfl; exact rfl)) | ((with_reducible refine freshIs_new ?_); kernel_rfl) | (simp only [B, xB, F, reduceLT, reduceLeDiff, reduceEqDiff, reduceAdd, reduceMul, reduceSub, ↓reduceIte, eq_self, ex_sl_l, e1, e2, v0, v1, s0, e]))
  generalize hn : 0 + 1 = n at hg
  generalize hc : [] ++ [x, y] = cs at hg
  refine ⟨by omega, ?_, fun b hb hne => hf b hb hne, fun b q => .inr (by rw [hbv] at q; cases q; exact Nat.le_refl _), ?_⟩
  rotate_left
  · intro c m t k r q1 q2 j u q3
    cases hg with
    | none => cases hn
    | cell b n cs t' ty hb1 hb2 hl hgt hj =>
      subst hc
      cases q1
      rw [hgt] at q2
      cases q2
      rw [hj] at q3
      exact .inl (mem2 q3)
  cases hg with
  | none => cases hn
  | cell b n cs t ty hb1 hb2 hl hgt hj =>
    subst hn; subst hc
    exact .opn b 1 2 ty _ (by omega) rfl (Nat.le_refl _) ⟨hb2, t, hgt, fun j _ => hj j⟩
theorem One.open {h : H} {vb b c m : Nat} {x y : AV} {t : T AV} {k : EK} (ho : One h vb x y) (hg : h.t.get b = some (.cells m t k false)) (hne : vb ≠ b) : One (openH h b c) vb x y := by
  obtain ⟨lt, ⟨t1, ty, hvg⟩, c0, c1, ox, oy⟩ := ho
  have e : (openH h b c).t.get vb = h.t.get vb := by rw [openH_get hg, if_neg hne]
  refine ⟨by rw [openH_nx]; exact lt, ⟨t1, ty, by rw [e]; exact hvg⟩, ?_, ?_, ox, oy⟩
  · rw [← c0]; unfold cellAt; rw [e]
  · rw [← c1]; unfold cellAt; rw [e]
theorem insC (h : H) (s : AV) (n i vb : Nat) (cs : List AV) (x y : AV) (hr : RowV h s n cs) (hall : allOne cs = true) (hi : i ≤ n) (hv : One h vb x y) (hne : blkOf s ≠ some vb) (hz : n ≤ 100000) :
    PushC P (.enter 84 [s, .int .i64 (.ofNat i), .slice vb 0 1 (.exact 1)] h) (PostIns h s x y (n + 1) (insL cs i x y)) := by
  cases hr with
  | nil =>
    obtain rfl : i = 0 := by omega
    exact insNil h vb x y hv
  | exa b n c ty cs h0 hl hc hr =>
    exact insX h b n c i vb ty cs x y hr hl hall h0 hc hi hv (fun e => hne (by rw [e]; rfl)) hz
  | opn b n m ty cs h0 hl hm hr =>
    have hne' : vb ≠ b := fun e => hne (by rw [e]; rfl)
    obtain ⟨hlt, t, hg, ht⟩ := hr
    refine pushC_open hg (show 0 < 2 by omega) (fun c hc hmc => ?_)
    have hmc : m ≤ c * 2 := hmc
    have hg' : (openH h b c).t.get b = some (.cells (c * 2) t ⟨2, ty⟩ false) := by rw [openH_get hg, if_pos rfl]
    refine (insX (openH h b c) b n c i vb ty cs x y ⟨by rw [openH_nx]; exact hlt, t, hg', ht⟩ hl hall h0 hc hi (hv.open hg hne') hne' hz).mono P ?_
    rintro v h' ⟨p1, p2, p3, p4, p5⟩
    rw [openH_nx] at p1 p3 p4
    refine ⟨p1, p2, fun b' hb' hne2 => ?_, p4, fun c' m' t' k' r' q1 q2 j u q3 => ?_⟩
    rotate_left
    · rcases p5 c' m' t' k' r' q1 q2 j u q3 with q | q | ⟨c0, j0, q, q4⟩
      · exact .inl q
      · exact .inr (.inl q)
      · cases q
        refine .inr (.inr ⟨b, j0, rfl, ?_⟩)
        rw [← q4]; unfold cellAt; rw [hg', hg]
    have hne2 : b ≠ b' := fun e => hne2 (by rw [e]; rfl)
    rw [p3 b' hb' (fun e => by cases e; exact hne2 rfl), openH_get hg, if_neg (fun e => hne2 e.symm)]
end
end Go.Proofs.Ytlkngpckibidlaa.X

namespace Go.AX
noncomputable section
open Go.RowKit
def cellOpen (h : H) (b j bl n c : Nat) : H :=
  match (openH h bl c).t.get b with
  | some (.cells mb tb kb rb) => { openH h bl c with t := (openH h bl c).t.set b (some (.cells mb (tb.set j (some (.slice bl 0 n (.exact c)))) kb rb)) }
  | _ => openH h bl c
section
variable {P : Program} {N : NN} {φ : Phi} {h : H} {w : World}
theorem cellOpen_get {b j bl n c mb m : Nat} {tb t : T AV} {kb k : EK} {rb : Bool} (hb : h.t.get b = some (.cells mb tb kb rb)) (hbl : h.t.get bl = some (.cells m t k false)) (hne : b ≠ bl) (b' : Nat) :
    (cellOpen h b j bl n c).t.get b' = if b' = b then some (.cells mb (tb.set j (some (.slice bl 0 n (.exact c)))) kb rb) else if b' = bl then some (.cells (c * k.sz) t k false) else h.t.get b' := by
  have e : (openH h bl c).t.get b = some (.cells mb tb kb rb) := by rw [openH_get hbl, if_neg hne]; exact hb
  unfold cellOpen
  rw [e]
  show (T.set (openH h bl c).t b _).get b' = _
  rw [T.get_set, openH_get hbl]
theorem cellOpen_nx (h : H) (b j bl n c : Nat) : (cellOpen h b j bl n c).nx = h.nx := by
  unfold cellOpen; split
  · exact openH_nx h bl c
  · exact openH_nx h bl c
theorem HR.free (hr : HR N φ h w) {b : Nat} (hn : N.res b ≠ none) (o : Option AObj) : HR N φ { h with t := h.t.set b o } w := by
  refine ⟨fun x ox hx hx2 => ?_, fun x ox y oy L L' hx hy h1 h2 h3 => ?_, hr.lt, hr.res, hr.glob⟩
  · simp only [T.get_set] at hx
    rw [if_neg (fun e => by subst e; exact hn hx2)] at hx
    exact hr.obj x ox hx hx2
  · have nb : ∀ {x L}, φ x = some L → x ≠ b := fun h1 e => by subst e; rw [(hr.res _ hn).1] at h1; cases h1
    simp only [T.get_set] at hx hy
    rw [if_neg (nb h1)] at hx
    rw [if_neg (nb h2)] at hy
    exact hr.inj x ox y oy L L' hx hy h1 h2 h3
theorem cell_open (hr : HR N φ h w) {b j bl n mb m : Nat} {tb t : T AV} {kb k : EK} {rb : Bool} (hb : h.t.get b = some (.cells mb tb kb rb)) (hj : tb.get j = some (.slice bl 0 n (.opn 0)))
    (hbl : h.t.get bl = some (.cells m t k false)) (hk : 0 < k.sz) (hne : b ≠ bl) (hnm : n * k.sz ≤ m) : ∃ c, n ≤ c ∧ m ≤ c * k.sz ∧ HR N φ (cellOpen h b j bl n c) w := by
  have hcl : ∃ c, n ≤ c ∧ m ≤ c * k.sz ∧ HR N φ (openH h bl c) w ∧ ∀ L, φ bl = some L → L.K = c := by
    cases hq : N.res bl with
    | none =>
      obtain ⟨L, hL, -⟩ := hr.obj bl _ hbl hq
      obtain ⟨h1, h2⟩ := open_rel hr hbl hk hL
      refine ⟨L.K, ?_, h1, h2, fun L' e => by rw [hL] at e; cases e; rfl⟩
      exact Nat.le_of_mul_le_mul_right (Nat.le_trans hnm h1) hk
    | some q =>
      have hn : N.res bl ≠ none := by rw [hq]; simp
      refine ⟨n + m, by omega, Nat.le_trans (Nat.le_add_left m n) (Nat.le_mul_of_pos_right _ hk), ?_, fun L e => by rw [(hr.res _ hn).1] at e; cases e⟩
      unfold openH; rw [hbl]
      exact hr.free hn _
  obtain ⟨c, h1, h2, h3, h4⟩ := hcl
  refine ⟨c, h1, h2, ?_⟩
  have e : (openH h bl c).t.get b = some (.cells mb tb kb rb) := by rw [openH_get hbl, if_neg hne]; exact hb
  unfold cellOpen
  rw [e]
  cases hq : N.res b with
  | some q => exact h3.free (by rw [hq]; simp) _
  | none =>
    obtain ⟨L, hL, ho⟩ := h3.obj b _ e hq
    refine h3.set e hL _ (fun _ _ => rfl) ?_
    obtain ⟨a, ty, frz, g1, g2, g3, g4, g5⟩ := ho
    refine ⟨a, ty, frz, g1, g2, fun i v hv => ?_, g4, g5⟩
    rw [T.get_set] at hv
    by_cases q : i = j
    · rw [if_pos q] at hv
      cases hv
      subst q
      obtain ⟨a1, a2, cv, a3, a4⟩ := g3 i _ hj
      rw [VR_sliceOp] at a4
      obtain ⟨L2, b1, b2, b3⟩ := a4
      refine ⟨a1, rfl, cv, a3, ?_⟩
      rw [VR_sliceEx]
      refine ⟨L2, b1, ?_⟩
      rw [b2, h4 L2 b1]; rfl
    · rw [if_neg q] at hv
      exact g3 i v hv
theorem PushC.cellOpen {r : R} {Q Q' : AV → H → Prop} (hc : PushC P r Q)
    (hq : ∀ v h, Q v h → Q' v h ∨ ∃ b j bl n mb m tb t kb k rb, h.t.get b = some (.cells mb tb kb rb) ∧ tb.get j = some (.slice bl 0 n (.opn 0)) ∧ h.t.get bl = some (.cells m t k false) ∧ 0 < k.sz ∧ b ≠ bl ∧ n * k.sz ≤ m ∧
      ∀ c, n ≤ c → m ≤ c * k.sz → Q' v (cellOpen h b j bl n c)) : PushC P r Q' := by
  intro c cs hf
  obtain ⟨s0, e0, hl⟩ := hc c cs hf
  refine ⟨s0, e0, ?_⟩
  intro N w0 bot φ fr fcs w hs
  obtain ⟨s1, ⟨v, h1, c1, hQ, hfin, rfl⟩, N1, φ1, fr1, cs1, w1, n1, l1, st1, sr1⟩ := hl N w0 bot φ fr fcs w hs
  rcases hq v h1 hQ with hQ' | ⟨b, j, bl, n, mb, m, tb, t, kb, k, rb, a1, a2, a3, a4, a5, a6, a7⟩
  · exact ⟨_, ⟨v, h1, c1, hQ', hfin, rfl⟩, N1, φ1, fr1, cs1, w1, n1, l1, st1, sr1⟩
  · obtain ⟨cc, d1, d2, d3⟩ := cell_open sr1.h a1 a2 a3 a4 a5 a6
    exact ⟨⟨c1, cs, AX.cellOpen h1 b j bl n cc⟩, ⟨v, _, c1, a7 cc d1 d2, hfin, rfl⟩, N1, φ1, fr1, cs1, w1, n1, l1, st1, ⟨sr1.fr, sr1.cs, d3, sr1.below, sr1.size⟩⟩
end
end
end Go.AX

namespace Go.Proofs.Ytlkngpckibidlaa.X
open Go Go.AX
noncomputable section
set_option maxRecDepth 100000
variable {N : Nat → Prop}
theorem RowV.slice {h : H} {v : AV} {n : Nat} {cs : List AV} (hr : RowV h v n cs) : SliceAt h v n cs := by
  cases hr with
  | nil => exact .none
  | opn b n m ty cs h0 hl hm hr =>
    obtain ⟨hlt, t, hg, ht⟩ := hr
    exact .cell b 0 n _ cs hlt fun i hi => by unfold cellAt; rw [hg, Nat.zero_add]; exact ht i hi
  | exa b n c ty cs h0 hl hc hr =>
    obtain ⟨hlt, t, hg, ht⟩ := hr
    exact .cell b 0 n _ cs hlt fun i hi => by unfold cellAt; rw [hg, Nat.zero_add]; exact ht i hi
theorem RowV.keep {h h' : H} {v : AV} {n : Nat} {cs : List AV} (hr : RowV h v n cs) (hx : h.nx ≤ h'.nx) (he : ∀ b, blkOf v = some b → h'.t.get b = h.t.get b) : RowV h' v n cs := by
  cases hr with
  | nil => exact .nil
  | opn b n m ty cs h0 hl hm hr =>
    obtain ⟨hlt, t, hg, ht⟩ := hr
    exact .opn b n m ty cs h0 hl hm ⟨by omega, t, by rw [he b rfl]; exact hg, ht⟩
  | exa b n c ty cs h0 hl hc hr =>
    obtain ⟨hlt, t, hg, ht⟩ := hr
    exact .exa b n c ty cs h0 hl hc ⟨by omega, t, by rw [he b rfl]; exact hg, ht⟩
theorem RowV.wr {h : H} {v : AV} {n : Nat} {cs : List AV} (hr : RowV h v n cs) {b : Nat} (hb : blkOf v = some b) : wrAt h b = true := by
  cases hr with
  | nil => cases hb
  | opn b n m ty cs h0 hl hm hr =>
    cases hb
    obtain ⟨hlt, t, hg, ht⟩ := hr
    unfold wrAt; rw [hg]
  | exa b n c ty cs h0 hl hc hr =>
    cases hb
    obtain ⟨hlt, t, hg, ht⟩ := hr
    unfold wrAt; rw [hg]
theorem RowB.sts {h : H} {b m ty o : Nat} {cs cs' : List AV} {l : List AV} (hr : RowB h b m 2 ty cs) (hl : cs'.length = cs.length) (he : ∀ j, j < cs.length → cs'[j]? = if o ≤ j ∧ j < o + l.length then l[j - o]? else cs[j]?) : RowB (h.sts b o l) b m 2 ty cs' := by
  obtain ⟨hlt, t, hg, ht⟩ := hr
  refine ⟨by rw [nx_sts]; exact hlt, AX.setL t o l, ?_, fun j hj => ?_⟩
  · unfold H.sts; rw [hg]; simp only [T.get_set, if_pos]
  · have := cellAt_sts (h := h) (b := b) (o := o) (l := l) (by unfold wrAt; rw [hg]) b j
    have e : cellAt (h.sts b o l) b j = (AX.setL t o l).get j := by unfold cellAt H.sts; rw [hg]; simp only [T.get_set, if_pos]
    have e2 : cellAt h b j = t.get j := by unfold cellAt; rw [hg]
    rw [← e, this, e2, he j (by omega), ht j (by omega)]
    by_cases q : o ≤ j ∧ j < o + l.length
    · rw [if_pos ⟨rfl, q⟩, if_pos q]
    · rw [if_neg (fun e => q e.2), if_neg q]
theorem RowV.sts {h : H} {v : AV} {n b o : Nat} {cs cs' : List AV} {l : List AV} (hr : RowV h v n cs) (hb : blkOf v = some b) (hl : cs'.length = cs.length) (he : ∀ j, j < cs.length → cs'[j]? = if o ≤ j ∧ j < o + l.length then l[j - o]? else cs[j]?) : RowV (h.sts b o l) v n cs' := by
  cases hr with
  | nil => cases hb
  | opn b n m ty cs h0 hl' hm hr => cases hb; exact .opn b n m ty cs' h0 (by omega) hm (RowB.sts hr hl he)
  | exa b n c ty cs h0 hl' hc hr => cases hb; exact .exa b n c ty cs' h0 (by omega) hc (RowB.sts hr hl he)
structure IxO (N : Nat → Prop) (h : H) (b : Nat) (R : List Pr) (s : AV) : Prop where
  ix : IxAt N h b R s
  rw : RowV h s R.length (prsC R)
  wr : wrAt h b = true
  ne : blkOf s ≠ some b
def opnV : AV → Bool
  | .slice _ _ _ (.opn _) => true
  | _ => false
structure IxR (N : Nat → Prop) (h : H) (b : Nat) (R : List Pr) (s : AV) : Prop extends IxO N h b R s where
  ex : opnV s = false
def rowL (s : AV) : List Nat := match blkOf s with | some c => [c] | none => []
def setI (k : List Nat) (L : List W.Gn) (v : AV) (R : List Pr) : List Pr := if isK k R then R.set (atK k R) ⟨k, L, v⟩ else R.take (atK k R) ++ ⟨k, L, v⟩ :: R.drop (atK k R)
theorem prsC_take : ∀ (R : List Pr) (i : Nat), (prsC R).take (i * 2) = prsC (R.take i)
  | [], i => by simp [prsC]
  | p :: R, 0 => by simp [prsC]
  | p :: R, i + 1 => by
    have := prsC_take R i
    unfold prsC at this ⊢
    rw [List.flatMap_cons, List.take_succ_cons, List.flatMap_cons, ← this, Nat.add_mul, Nat.one_mul]
    rfl
theorem prsC_drop : ∀ (R : List Pr) (i : Nat), (prsC R).drop (i * 2) = prsC (R.drop i)
  | [], i => by simp [prsC]
  | p :: R, 0 => by simp [prsC]
  | p :: R, i + 1 => by
    have := prsC_drop R i
    unfold prsC at this ⊢
    rw [List.flatMap_cons, List.drop_succ_cons, ← this, Nat.add_mul, Nat.one_mul]
    rfl
theorem insL_prs (R : List Pr) (i : Nat) (p : Pr) : insL (prsC R) i (.str p.key) p.v = prsC (R.take i ++ p :: R.drop i) := by
  unfold insL
  rw [prsC_take, prsC_drop]
  simp [prsC, prC]
theorem prs_set : ∀ (R : List Pr) (i : Nat) (p : Pr) (L : List W.Gn) (g : AV), R[i]? = some p → ∀ j, (prsC (R.set i ⟨p.key, L, g⟩))[j]? = if i * 2 + 1 ≤ j ∧ j < i * 2 + 1 + 1 then [g][j - (i * 2 + 1)]? else (prsC R)[j]?
  | [], i, p, L, g, h, j => by simp at h
  | q :: R, 0, p, L, g, h, j => by
    simp at h; subst h
    match j with
    | 0 => simp [prsC, prC]
    | 1 => simp [prsC, prC]
    | j + 2 => rw [if_neg (by omega)]; simp [prsC, prC]
  | q :: R, i + 1, p, L, g, h, j => by
    have ih := prs_set R i p L g (by simpa using h)
    match j with
    | 0 => rw [if_neg (by omega)]; simp [prsC, prC]
    | 1 => rw [if_neg (by omega)]; simp [prsC, prC]
    | j + 2 =>
      have := ih j
      have e : ∀ (q : Pr) (R : List Pr), (prsC (q :: R))[j + 2]? = (prsC R)[j]? := fun q R => by simp [prsC, prC]
      rw [List.set_cons_succ, e, e, this]
      by_cases c : i * 2 + 1 ≤ j ∧ j < i * 2 + 1 + 1
      · rw [if_pos c, if_pos (by omega), show j + 2 - ((i + 1) * 2 + 1) = j - (i * 2 + 1) by omega]
      · rw [if_neg c, if_neg (by omega)]
theorem prsC_leng (R : List Pr) : (prsC R).length = R.length * 2 := W.flat_len prC 2 prC_len R
theorem RowV.off {h : H} {b o n m : Nat} {cap : Cap} {cs : List AV} (hr : RowV h (.slice b o m cap) n cs) : o = 0 := by cases hr <;> rfl
theorem srt_set {R : List Pr} {i : Nat} {p q : Pr} (hs : Srt R) (hp : R[i]? = some p) (hk : q.key = p.key) : Srt (R.set i q) := by
  unfold Srt at *
  have e : (R.set i q).map (·.key) = R.map (·.key) := by
    rw [List.map_set]
    apply List.ext_getElem?
    intro j
    rw [List.getElem?_set]
    split
    · rename_i e; subst e
      rw [List.getElem?_map, hp]
      split
      · simp [hk]
      · rename_i h; simp at h
        have := (List.getElem?_eq_some_iff.1 hp).1; omega
    · rfl
  have a : (R.map (·.key)).Pairwise fun a b => listLtB a b = true := List.pairwise_map.2 hs
  rw [← e] at a
  exact List.pairwise_map.1 a
theorem srt_ins {R : List Pr} {k : List Nat} {p : Pr} (hs : Srt R) (hq : isK k R = false) (hk : p.key = k) : Srt (R.take (atK k R) ++ p :: R.drop (atK k R)) := by
  have hs' := hs
  unfold Srt at hs ⊢
  have h1 : ∀ x, x ∈ R.take (atK k R) → listLtB x.key k = true := fun x hx => by
    obtain ⟨i, e⟩ := List.getElem?_of_mem hx
    rw [List.getElem?_take] at e
    split at e
    · exact (at_iff hs' e).2 (by assumption)
    · cases e
  have h2 : ∀ x, x ∈ R.drop (atK k R) → listLtB k x.key = true := fun x hx => by
    obtain ⟨i, e⟩ := List.getElem?_of_mem hx
    rw [List.getElem?_drop] at e
    have n1 : ¬ listLtB x.key k = true := fun q => by have := (at_iff hs' e).1 q; omega
    rcases lt_tri x.key k with q | q | q
    · exact absurd q n1
    · exfalso
      match i, e with
      | 0, e =>
        unfold isK at hq
        rw [Nat.add_zero] at e
        rw [e] at hq
        simp [q] at hq
      | i + 1, e =>
        have hlt := (List.getElem?_eq_some_iff.1 e).1
        obtain ⟨y, hy⟩ : ∃ y, R[atK k R]? = some y := ⟨_, List.getElem?_eq_getElem (by omega)⟩
        have n2 : ¬ listLtB y.key k = true := fun q => by have := (at_iff hs' hy).1 q; omega
        obtain ⟨a1, a2⟩ := List.getElem?_eq_some_iff.1 hy
        obtain ⟨b1, b2⟩ := List.getElem?_eq_some_iff.1 e
        have := List.pairwise_iff_getElem.1 hs _ _ a1 b1 (by omega)
        rw [a2, b2, q] at this
        exact n2 this
    · exact q
  rw [List.pairwise_append, List.pairwise_cons]
  refine ⟨hs.sublist (List.take_sublist _ _), ⟨fun x hx => by rw [hk]; exact h2 x hx, hs.sublist (List.drop_sublist _ _)⟩, fun x hx y hy => ?_⟩
  rcases List.mem_cons.1 hy with e | e
  · rw [e, hk]; exact h1 x hx
  · exact lt_trans (h1 x hx) (h2 y e)
theorem prs_one {R : List Pr} (h : ∀ p, p ∈ R → p.v.one = true) : allOne (prsC R) = true := allOne_iff.2 fun v hv => by
  unfold prsC at hv
  obtain ⟨p, hp, hv⟩ := List.mem_flatMap.1 hv
  unfold prC at hv
  rcases List.mem_cons.1 hv with e | e
  · rw [e]; rfl
  · rw [List.mem_singleton.1 e]; exact h p hp
theorem setC0 (h : H) (b : Nat) (k : List Nat) (L : List W.Gn) (g : AV) (R : List Pr) (s : AV) (hx : IxO N h b R s) (hg : W.GensP (offI N b s) h (.agg [g]) L) (hz : R.length < 100000) :
    PushC P (.enter 76 [.ptr b 0, .str k, .agg [g]] h) fun v h' => v = .tuple [] ∧ ∃ s', Only h h' (b :: rowL s) ∧ (∀ c, blkOf s' = some c → blkOf s = some c ∨ h.nx ≤ c) ∧ IxO N h' b (setI k L g R) s' := by
  have c0 := hx.ix.c0
  have hwr := hx.wr
  have hso := W.SliceAt.one hx.ix.sl
  have hlt := hx.ix.lt
  obtain ⟨_, e, hgo, hgc⟩ := hg.val
  cases e
  refine pushC_of_codeW (fn := Try.f76) (c := bodyC Try.f76) Try.func76 rfl ?_
  show codeW P 76 36 none _ _ _ _ _
  refine codeW_root ?_
  repeat' (first | ((with_reducible refine st1 ?_); (conv => whnf); (with_reducible refine ⟨?_⟩)) | ((with_reducible refine st_dw ?_ rfl rfl ?_ ?_); exact rfl; kernel_rfl; (conv => arg 5; whnf); (conv => arg 3; whnf)) | ((with_reducible refine retW_intro rfl ?_); (conv => arg 2; whnf)) | ((with_reducible first | refine iB ?_ ?_ | refine gWt ?_ ?_ | refine gWf ?_ ?_ | refine gXt ?_ ?_ | refine gXf ?_ ?_) <;> intro hb <;> (try simp only [hb])) | ((with_reducible show drawI _ _ _ _ _ _ _ _ _); first | ((with_reducible refine kI_rd ?_ ?_); exact rfl) | ((with_reducible apply kI_rg); exact rfl; exact rfl) | ((with_reducible refine kI_cv ?_ ?_ ?_); exact rfl; kernel_rfl) | ((with_reducible apply kI_al); exact rfl; exact rfl) | ((with_reducible refine kI_ex ?_ ?_ ?_ ?_ ?_); exact rfl; kernel_rfl; exact rfl) | ((with_reducible apply kI_eg); exact rfl; kernel_rfl; exact rfl) | ((with_reducible refine kI_nl ?_ ?_))) | ((with_reducible show eOk _ _ _ _ _ _); first | (exact eok_nil) | (refine ke_rd ?_ ?_ ?_; exact rfl) | (apply ke_rg; exact rfl; exact rfl) | (refine ke_cv ?_ ?_ ?_ ?_; exact rfl; kernel_rfl) | (apply ke_al; exact rfl; exact rfl)) | ((with_reducible refine freshIs_new ?_); kernel_rfl) | (simp only [B, xB, F, reduceLT, reduceLeDiff, reduceEqDiff, reduceAdd, reduceMul, reduceSub, ↓reduceIte, eq_self, c0, hso, hgo, hgc]))
  obtain ⟨h1, h1e⟩ : ∃ h1, h1 = h.newCells 26 [g] := ⟨_, rfl⟩
  have o1 : Only h h1 [] := by rw [h1e]; exact (Only.refl _ _).new _ _
  have x1 : h1.nx = h.nx + 1 := by rw [h1e]; rfl
  have z0 : cellAt h1 h.nx 0 = some g := by rw [h1e]; simp only [B, xB, F, reduceLT, reduceLeDiff, reduceEqDiff, reduceAdd, reduceMul, reduceSub, ↓reduceIte, eq_self]
  have zw : wrAt h1 h.nx = true := by rw [h1e]; simp only [B, xB, F, reduceLT, reduceLeDiff, reduceEqDiff, reduceAdd, reduceMul, reduceSub, ↓reduceIte, eq_self]
  have hx1 := hx.ix.keep o1
  rw [← h1e]
  refine ((findC h1 b k R s hx1).call P).mono P ?_
  rintro v h2 ⟨rfl, o2⟩
  have hx2 := hx1.keep o2
  have c2 := hx2.c0
  have oo := o1.t o2
  have xo2 := o2.1
  have z2 := W.kcell z0 o2 (by omega) (by simp)
  have w2 := W.kwr zw o2 (by omega) (by simp)
  have wb2 := W.kwr hwr oo (by omega) (by simp)
  cases q : isK k R with
  | true =>
    have hat : atK k R < R.length := by
      unfold isK at q
      split at q
      · rename_i p hp; exact (List.getElem?_eq_some_iff.1 hp).1
      · cases q
    obtain ⟨p, hp⟩ : ∃ p, R[atK k R]? = some p := ⟨_, List.getElem?_eq_getElem hat⟩
    have hk : p.key = k := by unfold isK at q; rw [hp] at q; simpa using q
    have lt1 : (atK k R < R.length) = True := by simp [hat]
    obtain ⟨bl, o, cap, rfl, hb, -⟩ := hx.ix.sl.place (by omega)
    obtain rfl : o = 0 := hx.rw.off
    have p1 := (prC_at hx2.sl hp).2
    rw [Nat.zero_add] at p1
    have hr2 := hx.rw.keep oo.1 (fun c q => oo.2 c (hx.ix.sl.blk c q) (by simp))
    have wl := hr2.wr rfl
    obtain ⟨h3, h3e⟩ : ∃ h3, h3 = h2.sts bl (atK k R * 2 + 1) [g] := ⟨_, rfl⟩
    have hbb : b ≠ bl := fun e => hx.ne (by rw [e]; rfl)
    have o3 : Only h h3 (b :: [bl]) := by rw [h3e]; exact Only.sts ⟨oo.1, fun c hc _ => oo.2 c hc (by simp)⟩ (.inl (by simp))
    have hs : setI k L g R = R.set (atK k R) ⟨p.key, L, g⟩ := by unfold setI; rw [if_pos q, hk]
    have hfin : IxO N h3 b (R.set (atK k R) ⟨p.key, L, g⟩) (.slice bl 0 R.length cap) := by
      have hr3 : RowV h3 (.slice bl 0 R.length cap) R.length (prsC (R.set (atK k R) ⟨p.key, L, g⟩)) := by
        rw [h3e]
        refine hr2.sts rfl (by rw [prsC_leng, prsC_leng, List.length_set]) (fun j hj => ?_)
        exact prs_set R (atK k R) p L g hp j
      have o4 : Only h h3 [bl] := by rw [h3e]; exact Only.sts ⟨oo.1, fun c hc _ => oo.2 c hc (by simp)⟩ (.inl (by simp))
      have hoff : ∀ c, c ∈ [bl] → ¬ offI N b (.slice bl 0 R.length cap) c := fun c q e => by
        simp at q; subst q; exact e.2 rfl
      refine ⟨⟨by rw [h3e, nx_sts]; omega, W.kcell hx.ix.c0 o4 hlt (by simp [hbb]), ?_, fun x hxm => ?_, srt_set hx.ix.sr hp rfl, by rw [List.length_set]; exact hx.ix.zz, fun c hc => hx.ix.fl c (by rw [h3e, nx_sts] at hc; omega)⟩, ?_, W.kwr hwr o4 hlt (by simp [hbb]), hx.ne⟩
      · rw [List.length_set]; exact hr3.slice
      · rcases List.mem_or_eq_of_mem_set hxm with e | e
        · exact (hx.ix.gg x e).keep o4 hoff
        · subst e; exact hg.keep o4 hoff
      · rw [List.length_set]; exact hr3
    repeat' (first | ((with_reducible refine st1 ?_); (conv => whnf); (with_reducible refine ⟨?_⟩)) | ((with_reducible refine st_dw ?_ rfl rfl ?_ ?_); exact rfl; kernel_rfl; (conv => arg 5; whnf); (conv => arg 3; whnf)) | ((with_reducible refine retW_intro rfl ?_); (conv => arg 2; whnf)) | ((with_reducible first | refine iB ?_ ?_ | refine gWt ?_ ?_ | refine gWf ?_ ?_ | refine gXt ?_ ?_ | refine gXf ?_ ?_) <;> intro hb <;> (try simp only [hb])) | ((with_reducible show drawI _ _ _ _ _ _ _ _ _); first | ((with_reducible refine kI_rd ?_ ?_); exact rfl) | ((with_reducible apply kI_rg); exact rfl; exact rfl) | ((with_reducible refine kI_cv ?_ ?_ ?_); exact rfl; kernel_rfl) | ((with_reducible apply kI_al); exact rfl; exact rfl) | ((with_reducible refine kI_ex ?_ ?_ ?_ ?_ ?_); exact rfl; kernel_rfl; exact rfl) | ((with_reducible apply kI_eg); exact rfl; kernel_rfl; exact rfl) | ((with_reducible refine kI_nl ?_ ?_))) | ((with_reducible show eOk _ _ _ _ _ _); first | (exact eok_nil) | (refine ke_rd ?_ ?_ ?_; exact rfl) | (apply ke_rg; exact rfl; exact rfl) | (refine ke_cv ?_ ?_ ?_ ?_; exact rfl; kernel_rfl) | (apply ke_al; exact rfl; exact rfl)) | ((with_reducible refine freshIs_new ?_); kernel_rfl) | (simp only [B, xB, F, reduceLT, reduceLeDiff, reduceEqDiff, reduceAdd, reduceMul, reduceSub, ↓reduceIte, eq_self, c2, lt1, z2, w2, wb2, p1, wl, hgo, hgc, put_sts, ← h3e]))
    exact ⟨rfl, _, o3, fun c q => .inl q, by rw [hs]; exact hfin⟩
  | false =>
    have hbn : (b = h2.nx) = False := by simp; omega
    repeat' (first | ((with_reducible refine st1 ?_); (conv => whnf); (with_reducible refine ⟨?_⟩)) | ((with_reducible refine st_dw ?_ rfl rfl ?_ ?_); exact rfl; kernel_rfl; (conv => arg 5; whnf); (conv => arg 3; whnf)) | ((with_reducible refine retW_intro rfl ?_); (conv => arg 2; whnf)) | ((with_reducible first | refine iB ?_ ?_ | refine gWt ?_ ?_ | refine gWf ?_ ?_ | refine gXt ?_ ?_ | refine gXf ?_ ?_) <;> intro hb <;> (try simp only [hb])) | ((with_reducible show drawI _ _ _ _ _ _ _ _ _); first | ((with_reducible refine kI_rd ?_ ?_); exact rfl) | ((with_reducible apply kI_rg); exact rfl; exact rfl) | ((with_reducible refine kI_cv ?_ ?_ ?_); exact rfl; kernel_rfl) | ((with_reducible apply kI_al); exact rfl; exact rfl) | ((with_reducible refine kI_ex ?_ ?_ ?_ ?_ ?_); exact rfl; kernel_rfl; exact rfl) | ((with_reducible apply kI_eg); exact rfl; kernel_rfl; exact rfl) | ((with_reducible refine kI_nl ?_ ?_))) | ((with_reducible show eOk _ _ _ _ _ _); first | (exact eok_nil) | (refine ke_rd ?_ ?_ ?_; exact rfl) | (apply ke_rg; exact rfl; exact rfl) | (refine ke_cv ?_ ?_ ?_ ?_; exact rfl; kernel_rfl) | (apply ke_al; exact rfl; exact rfl)) | ((with_reducible refine freshIs_new ?_); kernel_rfl) | (simp only [B, xB, F, reduceLT, reduceLeDiff, reduceEqDiff, reduceAdd, reduceMul, reduceSub, ↓reduceIte, eq_self, c2, z2, w2, wb2, hgo, hgc, hbn]))
    obtain ⟨h3, h3e⟩ : ∃ h3, h3 = h2.newCells 114 [.str k, g] := ⟨_, rfl⟩
    have x3 : h3.nx = h2.nx + 1 := by rw [h3e]; rfl
    have o3 : Only h h3 [] := by rw [h3e]; exact oo.new _ _
    have hv3 : One h3 h2.nx (.str k) g := ⟨by omega, ⟨_, _, by rw [h3e]; unfold H.newCells H.alloc; simp only [T.get_set, if_pos]; rfl⟩, by rw [h3e, cellAt_new, if_pos rfl]; rfl, by rw [h3e, cellAt_new, if_pos rfl]; rfl, rfl, hgo⟩
    have hr3 := hx.rw.keep o3.1 (fun c q => o3.2 c (hx.ix.sl.blk c q) (by simp))
    have hne3 : blkOf s ≠ some h2.nx := fun e => by have := hx.ix.sl.blk _ e; omega
    rw [← h3e]
    refine ((insC h3 s R.length (atK k R) h2.nx (prsC R) (.str k) g hr3 (prs_one hx.ix.one) (atK_le _ _) hv3 hne3 (by omega)).call P).mono P ?_
    rintro v h4 ⟨p1, p2, p3, p4, p5⟩
    have hp := insL_prs R (atK k R) ⟨k, L, g⟩
    rw [hp] at p2
    have hvo := W.SliceAt.one p2.slice
    have hvc := W.SliceAt.cells p2.slice
    have g4 : ∀ c, c < h.nx → blkOf s ≠ some c → h4.t.get c = h.t.get c := fun c hc hn => by rw [p3 c (by omega) hn]; exact o3.2 c hc (by simp)
    have hbs := hx.ne
    have gb := g4 b hlt hbs
    have cb4 : cellAt h4 b 0 = some s := by rw [cellAt_of_get gb]; exact c0
    have wb4 : wrAt h4 b = true := by rw [← hwr]; unfold wrAt; rw [gb]
    have hs : setI k L g R = R.take (atK k R) ++ ⟨k, L, g⟩ :: R.drop (atK k R) := by unfold setI; rw [if_neg (by rw [q]; simp)]
    have hln : (R.take (atK k R) ++ (⟨k, L, g⟩ : Pr) :: R.drop (atK k R)).length = R.length + 1 := by have := atK_le k R; simp; omega
    have hvb : ∀ c, blkOf v = some c → c ≠ b := fun c q e => by
      subst e
      rcases p4 c q with q1 | q1
      · exact hbs q1
      · omega
    have mrow : ∀ c, c ∉ rowL s → blkOf s ≠ some c := fun c hc e => hc (by unfold rowL; rw [e]; simp)
    obtain ⟨h5, h5e⟩ : ∃ h5, h5 = h4.sts b 0 [v] := ⟨_, rfl⟩
    have o5 : Only h h5 (b :: rowL s) := by rw [h5e]; exact Only.sts ⟨by omega, fun c hc hn => g4 c hc (mrow c (fun e => hn (List.mem_cons_of_mem _ e)))⟩ (.inl (by simp))
    have hoff : ∀ c, c ∈ b :: rowL s → ¬ (offI N b s c ∧ offI N b v c) := fun c hc e => by
      rcases List.mem_cons.1 hc with q1 | q1
      · exact e.1.1 q1
      · unfold rowL at q1
        split at q1
        · rename_i c' q2
          rw [List.mem_singleton.1 q1] at e
          exact e.1.2 q2
        · cases q1
    have hgen : ∀ (y : AV) (M : List W.Gn), W.GensP (offI N b s) h y M → W.GensP (offI N b v) h5 y M := fun y M gy =>
      ((gy.mono (q := fun c => offI N b s c ∧ offI N b v c) fun c hc e => ⟨e, e.1, (fun q1 => by
        rcases p4 c q1 with q2 | q2
        · exact e.2 q2
        · omega), e.fl⟩).keep o5 hoff).mono fun c _ e => e.2
    have hr5 : RowV h5 v (R.length + 1) (prsC (R.take (atK k R) ++ ⟨k, L, g⟩ :: R.drop (atK k R))) := by
      refine p2.keep (by rw [h5e, nx_sts]; exact Nat.le_refl _) (fun c q1 => ?_)
      rw [h5e, get_sts _ _ _ _ (hvb c q1)]
    have hfin : IxO N h5 b (R.take (atK k R) ++ ⟨k, L, g⟩ :: R.drop (atK k R)) v := by
      refine ⟨⟨by rw [h5e, nx_sts]; omega, by rw [h5e, cellAt_sts wb4]; simp, by rw [hln]; exact hr5.slice, fun x hxm => ?_, srt_ins hx.ix.sr q rfl, by rw [hln]; omega, fun c hc => hx.ix.fl c (by rw [h5e, nx_sts] at hc; omega)⟩, by rw [hln]; exact hr5, by rw [h5e, wrAt_sts]; exact wb4, fun e => hvb b e rfl⟩
      rcases List.mem_append.1 hxm with e | e
      · exact hgen _ _ (hx.ix.gg x (List.mem_of_mem_take e))
      · rcases List.mem_cons.1 e with e | e
        · subst e; exact hgen _ _ hg
        · exact hgen _ _ (hx.ix.gg x (List.mem_of_mem_drop e))
    repeat' (first | ((with_reducible refine st1 ?_); (conv => whnf); (with_reducible refine ⟨?_⟩)) | ((with_reducible refine st_dw ?_ rfl rfl ?_ ?_); exact rfl; kernel_rfl; (conv => arg 5; whnf); (conv => arg 3; whnf)) | ((with_reducible refine retW_intro rfl ?_); (conv => arg 2; whnf)) | ((with_reducible first | refine iB ?_ ?_ | refine gWt ?_ ?_ | refine gWf ?_ ?_ | refine gXt ?_ ?_ | refine gXf ?_ ?_) <;> intro hb <;> (try simp only [hb])) | ((with_reducible show drawI _ _ _ _ _ _ _ _ _); first | ((with_reducible refine kI_rd ?_ ?_); exact rfl) | ((with_reducible apply kI_rg); exact rfl; exact rfl) | ((with_reducible refine kI_cv ?_ ?_ ?_); exact rfl; kernel_rfl) | ((with_reducible apply kI_al); exact rfl; exact rfl) | ((with_reducible refine kI_ex ?_ ?_ ?_ ?_ ?_); exact rfl; kernel_rfl; exact rfl) | ((with_reducible apply kI_eg); exact rfl; kernel_rfl; exact rfl) | ((with_reducible refine kI_nl ?_ ?_))) | ((with_reducible show eOk _ _ _ _ _ _); first | (exact eok_nil) | (refine ke_rd ?_ ?_ ?_; exact rfl) | (apply ke_rg; exact rfl; exact rfl) | (refine ke_cv ?_ ?_ ?_ ?_; exact rfl; kernel_rfl) | (apply ke_al; exact rfl; exact rfl)) | ((with_reducible refine freshIs_new ?_); kernel_rfl) | (simp only [B, xB, F, reduceLT, reduceLeDiff, reduceEqDiff, reduceAdd, reduceMul, reduceSub, ↓reduceIte, eq_self, cb4, wb4, hvo, hvc, put_sts, ← h5e]))
    rw [retK_norm]
    exact ⟨h5, rfl, .tuple [], rfl, rfl, _, o5, fun c q1 => (p4 c q1).imp id (fun q2 => by omega), by rw [hs]; exact hfin⟩
def Nb (h : H) (s s' : AV) : Prop := ∀ c, blkOf s' = some c → blkOf s = some c ∨ h.nx ≤ c
theorem Nb.from {h h1 : H} {s s' : AV} (n : Nb h1 s s') (hx : h.nx ≤ h1.nx) : Nb h s s' := fun c e => (n c e).imp id (fun q => Nat.le_trans hx q)
theorem setC (h : H) (b : Nat) (k : List Nat) (L : List W.Gn) (g : AV) (R : List Pr) (s : AV) (hx : IxR N h b R s) (hg : W.GensP (offI N b s) h (.agg [g]) L) (hz : R.length < 100000) :
    PushC P (.enter 76 [.ptr b 0, .str k, .agg [g]] h) fun v h' => v = .tuple [] ∧ ∃ s', Only h h' (b :: rowL s) ∧ Nb h s s' ∧ IxR N h' b (setI k L g R) s' := by
  refine (setC0 h b k L g R s hx.toIxO hg hz).cellOpen ?_
  rintro v h1 ⟨rfl, s1, o1, hbk, hx1⟩
  obtain ⟨R1, hR1⟩ : ∃ R1, R1 = setI k L g R := ⟨_, rfl⟩
  rw [← hR1] at hx1 ⊢
  cases q : opnV s1 with
  | false => exact .inl ⟨rfl, s1, o1, hbk, hx1, q⟩
  | true =>
    refine .inr ?_
    obtain ⟨⟨lt, c0, sl, gg, sr, zz, fl⟩, hrw, wr, ne⟩ := hx1
    obtain ⟨n, hn⟩ : ∃ n, n = R1.length := ⟨_, rfl⟩
    obtain ⟨cs, hcs⟩ : ∃ cs, cs = prsC R1 := ⟨_, rfl⟩
    rw [← hn, ← hcs] at hrw
    cases hrw with
    | nil => cases q
    | exa bl n c ty cs h0 hl hm hr => cases q
    | opn bl n m ty cs h0 hl hm hr =>
      obtain ⟨hlt, t, hg1, ht⟩ := hr
      have hwr := wr
      unfold wrAt at wr
      unfold cellAt at c0
      split at wr
      · rename_i mb tb kb hgb
        rw [hgb] at c0
        simp only at c0
        have hne : b ≠ bl := fun e => ne (by rw [e]; rfl)
        refine ⟨b, 0, bl, n, mb, m, tb, t, kb, ⟨2, ty⟩, false, hgb, c0, hg1, (show 0 < 2 by omega), hne, hm, fun c h1c h2c => ?_⟩
        have h2c : m ≤ c * 2 := h2c
        have hget := cellOpen_get (j := 0) (n := n) (c := c) hgb hg1 hne
        obtain ⟨h2, h2e⟩ : ∃ h2, h2 = AX.cellOpen h1 b 0 bl n c := ⟨_, rfl⟩
        rw [← h2e] at hget ⊢
        have hx2 : h2.nx = h1.nx := by rw [h2e]; exact cellOpen_nx _ _ _ _ _ _
        have o2 : Only h1 h2 [b, bl] := ⟨by omega, fun c' hc' hn' => by rw [hget, if_neg (fun e => hn' (by simp [e])), if_neg (fun e => hn' (by simp [e]))]⟩
        have hrow : RowV h2 (.slice bl 0 n (.exact c)) n cs := .exa bl n c ty cs h0 hl h1c ⟨by omega, t, by rw [hget, if_neg (fun e => hne e.symm), if_pos rfl], ht⟩
        refine ⟨rfl, .slice bl 0 n (.exact c), ⟨by have := o1.1; omega, fun c' hc' hn' => ?_⟩, fun c e => hbk c e, ⟨⟨⟨by omega, ?_, by rw [← hn, ← hcs]; exact hrow.slice, fun p hp => ?_, sr, zz, fun c hc => fl c (by omega)⟩, by rw [← hn, ← hcs]; exact hrow, ?_, ne⟩, rfl⟩⟩
        · rw [hget, if_neg (fun e => hn' (by simp [e])), if_neg (fun e => ?_)]
          · exact o1.2 c' hc' hn'
          · subst e
            rcases hbk _ rfl with e | e
            · exact hn' (by unfold rowL; rw [e]; simp)
            · omega
        · unfold cellAt; rw [hget, if_pos rfl]
          show T.get (T.set _ _ _) 0 = _
          rw [T.get_set, if_pos rfl]
        · exact ((gg p hp).keep o2 (fun c' hc' e => by
            rcases List.mem_cons.1 hc' with e1 | e1
            · exact e.1 e1
            · rw [List.mem_singleton] at e1; exact e.2 (by rw [e1]; rfl))).mono fun c' _ e => ⟨e.nb, e.ns, e.fl⟩
        · unfold wrAt; rw [hget, if_pos rfl]
      · cases wr
end
end Go.Proofs.Ytlkngpckibidlaa.X

namespace Go.Proofs.Ytlkngpckibidlaa.X
open Go Go.AX
noncomputable section
set_option maxRecDepth 100000
variable {N : Nat → Prop}
theorem IxR.keep {h h' : H} {b : Nat} {R : List Pr} {s : AV} (hx : IxR N h b R s) (ho : Only h h' []) : IxR N h' b R s :=
  ⟨⟨hx.ix.keep ho, hx.rw.keep ho.1 (fun c q => ho.2 c (hx.ix.sl.blk c q) (by simp)), W.kwr hx.wr ho hx.ix.lt (by simp), hx.ne⟩, hx.ex⟩
theorem Only.trans0 {h h1 h2 : H} {S : List Nat} (a : Only h h1 []) (b : Only h1 h2 S) : Only h h2 S :=
  ⟨Nat.le_trans a.1 b.1, fun c hc hn => by rw [b.2 c (Nat.lt_of_lt_of_le hc a.1) hn, a.2 c hc (by simp)]⟩
theorem Only.wide {h h1 : H} {S : List Nat} (a : Only h h1 []) : Only h h1 S := ⟨a.1, fun c hc _ => a.2 c hc (by simp)⟩
def keyOk (k : List Nat) : Prop := k ≠ [] ∧ k.length ≤ 16
theorem changeBad (h : H) (b : Nat) (k : List Nat) (f : AV) (hf : f.one = true) (hk : ¬ keyOk k) : PushC P (.enter 58 [.ptr b 0, .str k, f] h) (W.Says h (W.errV 2)) := by
  by_cases q : k = []
  · have d1 : decide (k = bytesOf { data := #[] }) = true := decide_eq_true q
    refine pushC_of_codeW (fn := Try.f58) (c := bodyC Try.f58) Try.func58 rfl ?_
    show codeW P 58 39 none _ _ _ _ _
    refine codeW_root ?_
    repeat' (first | ((with_reducible refine st1 ?_); (conv => whnf); (with_reducible refine ⟨?_⟩)) | ((with_reducible refine st_dw ?_ rfl rfl ?_ ?_); exact rfl; kernel_rfl; (conv => arg 5; whnf); (conv => arg 3; whnf)) | ((with_reducible refine retW_intro rfl ?_); (conv => arg 2; whnf)) | ((with_reducible first | refine iB ?_ ?_ | refine gWt ?_ ?_ | refine gWf ?_ ?_ | refine gXt ?_ ?_ | refine gXf ?_ ?_) <;> intro hb <;> (try simp only [hb])) | ((with_reducible show drawI _ _ _ _ _ _ _ _ _); first | ((with_reducible refine kI_rd ?_ ?_); exact rfl) | ((with_reducible apply kI_rg); exact rfl; exact rfl) | ((with_reducible refine kI_cv ?_ ?_ ?_); exact rfl; kernel_rfl) | ((with_reducible apply kI_al); exact rfl; exact rfl) | ((with_reducible refine kI_ex ?_ ?_ ?_ ?_ ?_); exact rfl; kernel_rfl; exact rfl) | ((with_reducible apply kI_eg); exact rfl; kernel_rfl; exact rfl) | ((with_reducible refine kI_nl ?_ ?_))) | ((with_reducible show eOk _ _ _ _ _ _); first | (exact eok_nil) | (refine ke_rd ?_ ?_ ?_; exact rfl) | (apply ke_rg; exact rfl; exact rfl) | (refine ke_cv ?_ ?_ ?_ ?_; exact rfl; kernel_rfl) | (apply ke_al; exact rfl; exact rfl)) | ((with_reducible refine freshIs_new ?_); kernel_rfl) | (simp only [B, xB, F, reduceLT, reduceLeDiff, reduceEqDiff, reduceAdd, reduceMul, reduceSub, ↓reduceIte, eq_self, d1, hf]))
    exact ⟨rfl, Only.refl _ _⟩
  · have d1 : decide (k = bytesOf { data := #[] }) = false := decide_eq_false q
    have d2 : decide (16 < k.length) = true := decide_eq_true (by have : ¬ k.length ≤ 16 := fun e => hk ⟨q, e⟩; omega)
    refine pushC_of_codeW (fn := Try.f58) (c := bodyC Try.f58) Try.func58 rfl ?_
    show codeW P 58 39 none _ _ _ _ _
    refine codeW_root ?_
    repeat' (first | ((with_reducible refine st1 ?_); (conv => whnf); (with_reducible refine ⟨?_⟩)) | ((with_reducible refine st_dw ?_ rfl rfl ?_ ?_); exact rfl; kernel_rfl; (conv => arg 5; whnf); (conv => arg 3; whnf)) | ((with_reducible refine retW_intro rfl ?_); (conv => arg 2; whnf)) | ((with_reducible first | refine iB ?_ ?_ | refine gWt ?_ ?_ | refine gWf ?_ ?_ | refine gXt ?_ ?_ | refine gXf ?_ ?_) <;> intro hb <;> (try simp only [hb])) | ((with_reducible show drawI _ _ _ _ _ _ _ _ _); first | ((with_reducible refine kI_rd ?_ ?_); exact rfl) | ((with_reducible apply kI_rg); exact rfl; exact rfl) | ((with_reducible refine kI_cv ?_ ?_ ?_); exact rfl; kernel_rfl) | ((with_reducible apply kI_al); exact rfl; exact rfl) | ((with_reducible refine kI_ex ?_ ?_ ?_ ?_ ?_); exact rfl; kernel_rfl; exact rfl) | ((with_reducible apply kI_eg); exact rfl; kernel_rfl; exact rfl) | ((with_reducible refine kI_nl ?_ ?_))) | ((with_reducible show eOk _ _ _ _ _ _); first | (exact eok_nil) | (refine ke_rd ?_ ?_ ?_; exact rfl) | (apply ke_rg; exact rfl; exact rfl) | (refine ke_cv ?_ ?_ ?_ ?_; exact rfl; kernel_rfl) | (apply ke_al; exact rfl; exact rfl)) | ((with_reducible refine freshIs_new ?_); kernel_rfl) | (simp only [B, xB, F, reduceLT, reduceLeDiff, reduceEqDiff, reduceAdd, reduceMul, reduceSub, ↓reduceIte, eq_self, d1, d2, hf]))
    exact ⟨rfl, Only.refl _ _⟩
def PostCh (N : Nat → Prop) (h : H) (b : Nat) (k : List Nat) (R : List Pr) (s : AV) (L : List W.Gn) (e : Nat) (v : AV) (h' : H) : Prop :=
  v = W.errV e ∧ ∃ g s', Only h h' (b :: rowL s) ∧ Nb h s s' ∧ IxR N h' b (if e = 0 then setI k L g R else R) s'
theorem changeC (f : FuncId) (hf : enterOk P f = true) (caps : List AV) (h : H) (b : Nat) (k : List Nat) (R : List Pr) (s : AV) (L : List W.Gn) (e : Nat) (hx : IxR N h b R s) (hz : R.length < 100000) (hk : keyOk k)
    (hdo : ∀ h1 y, Only h h1 [] → W.GensP (offI N b s) h1 (.agg [y]) (getL k R) → PushC P (.enter f ([.agg [y]] ++ caps) h1) (W.PostE (offI N b s) h1 L e)) :
    PushC P (.enter 58 [.ptr b 0, .str k, .func f [] caps] h) (PostCh N h b k R s L e) := by
  have hlt := hx.ix.lt
  have cff := fun args h => callV_func (P := P) f hf [] caps args (h := h)
  have d1 : decide (k = bytesOf { data := #[] }) = false := decide_eq_false hk.1
  have d2 : decide (16 < k.length) = false := decide_eq_false (by have := hk.2; omega)
  refine pushC_of_codeW (fn := Try.f58) (c := bodyC Try.f58) Try.func58 rfl ?_
  show codeW P 58 39 none _ _ _ _ _
  refine codeW_root ?_
  repeat' (first | ((with_reducible refine st1 ?_); (conv => whnf); (with_reducible refine ⟨?_⟩)) | ((with_reducible refine st_dw ?_ rfl rfl ?_ ?_); exact rfl; kernel_rfl; (conv => arg 5; whnf); (conv => arg 3; whnf)) | ((with_reducible refine retW_intro rfl ?_); (conv => arg 2; whnf)) | ((with_reducible first | refine iB ?_ ?_ | refine gWt ?_ ?_ | refine gWf ?_ ?_ | refine gXt ?_ ?_ | refine gXf ?_ ?_) <;> intro hb <;> (try simp only [hb])) | ((with_reducible show drawI _ _ _ _ _ _ _ _ _); first | ((with_reducible refine kI_rd ?_ ?_); exact rfl) | ((with_reducible apply kI_rg); exact rfl; exact rfl) | ((with_reducible refine kI_cv ?_ ?_ ?_); exact rfl; kernel_rfl) | ((with_reducible apply kI_al); exact rfl; exact rfl) | ((with_reducible refine kI_ex ?_ ?_ ?_ ?_ ?_); exact rfl; kernel_rfl; exact rfl) | ((with_reducible apply kI_eg); exact rfl; kernel_rfl; exact rfl) | ((with_reducible refine kI_nl ?_ ?_))) | ((with_reducible show eOk _ _ _ _ _ _); first | (exact eok_nil) | (refine ke_rd ?_ ?_ ?_; exact rfl) | (apply ke_rg; exact rfl; exact rfl) | (refine ke_cv ?_ ?_ ?_ ?_; exact rfl; kernel_rfl) | (apply ke_al; exact rfl; exact rfl)) | ((with_reducible refine freshIs_new ?_); kernel_rfl) | (simp only [B, xB, F, reduceLT, reduceLeDiff, reduceEqDiff, reduceAdd, reduceMul, reduceSub, ↓reduceIte, eq_self, d1, d2]))
  refine ((getC (offI N b s) h b k R s hx.ix hx.ix.gg).call P).mono P ?_
  rintro v h1 ⟨o1, g, rfl, hg, -⟩
  have hd := hdo h1 g o1 hg
  obtain ⟨_, e', hgo, hgc⟩ := hg.val
  cases e'
  repeat' (first | ((with_reducible refine st1 ?_); (conv => whnf); (with_reducible refine ⟨?_⟩)) | ((with_reducible refine st_dw ?_ rfl rfl ?_ ?_); exact rfl; kernel_rfl; (conv => arg 5; whnf); (conv => arg 3; whnf)) | ((with_reducible refine retW_intro rfl ?_); (conv => arg 2; whnf)) | ((with_reducible first | refine iB ?_ ?_ | refine gWt ?_ ?_ | refine gWf ?_ ?_ | refine gXt ?_ ?_ | refine gXf ?_ ?_) <;> intro hb <;> (try simp only [hb])) | ((with_reducible show drawI _ _ _ _ _ _ _ _ _); first | ((with_reducible refine kI_rd ?_ ?_); exact rfl) | ((with_reducible apply kI_rg); exact rfl; exact rfl) | ((with_reducible refine kI_cv ?_ ?_ ?_); exact rfl; kernel_rfl) | ((with_reducible apply kI_al); exact rfl; exact rfl) | ((with_reducible refine kI_ex ?_ ?_ ?_ ?_ ?_); exact rfl; kernel_rfl; exact rfl) | ((with_reducible apply kI_eg); exact rfl; kernel_rfl; exact rfl) | ((with_reducible refine kI_nl ?_ ?_))) | ((with_reducible show eOk _ _ _ _ _ _); first | (exact eok_nil) | (refine ke_rd ?_ ?_ ?_; exact rfl) | (apply ke_rg; exact rfl; exact rfl) | (refine ke_cv ?_ ?_ ?_ ?_; exact rfl; kernel_rfl) | (apply ke_al; exact rfl; exact rfl)) | ((with_reducible refine freshIs_new ?_); kernel_rfl) | (simp only [B, xB, F, reduceLT, reduceLeDiff, reduceEqDiff, reduceAdd, reduceMul, reduceSub, ↓reduceIte, eq_self, cff, hgo, hgc, List.nil_append, List.append_nil]))
  refine (hd.call P).mono P ?_
  rintro v h2 ⟨o2, g2, rfl, hg2⟩
  obtain ⟨y, e', hyo, hyc⟩ := hg2.val
  subst e'
  have hx2 := (hx.keep o1).keep o2
  unfold W.errV
  by_cases q : e = 0
  · subst q
    have d3 : decide (0 = 0) = true := rfl
    repeat' (first | ((with_reducible refine st1 ?_); (conv => whnf); (with_reducible refine ⟨?_⟩)) | ((with_reducible refine st_dw ?_ rfl rfl ?_ ?_); exact rfl; kernel_rfl; (conv => arg 5; whnf); (conv => arg 3; whnf)) | ((with_reducible refine retW_intro rfl ?_); (conv => arg 2; whnf)) | ((with_reducible first | refine iB ?_ ?_ | refine gWt ?_ ?_ | refine gWf ?_ ?_ | refine gXt ?_ ?_ | refine gXf ?_ ?_) <;> intro hb <;> (try simp only [hb])) | ((with_reducible show drawI _ _ _ _ _ _ _ _ _); first | ((with_reducible refine kI_rd ?_ ?_); exact rfl) | ((with_reducible apply kI_rg); exact rfl; exact rfl) | ((with_reducible refine kI_cv ?_ ?_ ?_); exact rfl; kernel_rfl) | ((with_reducible apply kI_al); exact rfl; exact rfl) | ((with_reducible refine kI_ex ?_ ?_ ?_ ?_ ?_); exact rfl; kernel_rfl; exact rfl) | ((with_reducible apply kI_eg); exact rfl; kernel_rfl; exact rfl) | ((with_reducible refine kI_nl ?_ ?_))) | ((with_reducible show eOk _ _ _ _ _ _); first | (exact eok_nil) | (refine ke_rd ?_ ?_ ?_; exact rfl) | (apply ke_rg; exact rfl; exact rfl) | (refine ke_cv ?_ ?_ ?_ ?_; exact rfl; kernel_rfl) | (apply ke_al; exact rfl; exact rfl)) | ((with_reducible refine freshIs_new ?_); kernel_rfl) | (simp only [B, xB, F, reduceLT, reduceLeDiff, reduceEqDiff, reduceAdd, reduceMul, reduceSub, ↓reduceIte, eq_self, hyo, hyc, d3]))
    obtain ⟨h3, h3e⟩ : ∃ h3, h3 = (h2.newCells 26 [.nilslice]).sts h2.nx 0 [y] := ⟨_, rfl⟩
    have o3 : Only h2 h3 [] := by rw [h3e]; exact ((Only.refl _ _).new _ _).sts (.inr (Nat.le_refl _))
    rw [← h3e]
    refine ((setC h3 b k L y R s (hx2.keep o3) (hg2.keep0 o3) hz).call P).mono P ?_
    rintro v h4 ⟨rfl, s', o4, nb, hx4⟩
    repeat' (first | ((with_reducible refine st1 ?_); (conv => whnf); (with_reducible refine ⟨?_⟩)) | ((with_reducible refine st_dw ?_ rfl rfl ?_ ?_); exact rfl; kernel_rfl; (conv => arg 5; whnf); (conv => arg 3; whnf)) | ((with_reducible refine retW_intro rfl ?_); (conv => arg 2; whnf)) | ((with_reducible first | refine iB ?_ ?_ | refine gWt ?_ ?_ | refine gWf ?_ ?_ | refine gXt ?_ ?_ | refine gXf ?_ ?_) <;> intro hb <;> (try simp only [hb])) | ((with_reducible show drawI _ _ _ _ _ _ _ _ _); first | ((with_reducible refine kI_rd ?_ ?_); exact rfl) | ((with_reducible apply kI_rg); exact rfl; exact rfl) | ((with_reducible refine kI_cv ?_ ?_ ?_); exact rfl; kernel_rfl) | ((with_reducible apply kI_al); exact rfl; exact rfl) | ((with_reducible refine kI_ex ?_ ?_ ?_ ?_ ?_); exact rfl; kernel_rfl; exact rfl) | ((with_reducible apply kI_eg); exact rfl; kernel_rfl; exact rfl) | ((with_reducible refine kI_nl ?_ ?_))) | ((with_reducible show eOk _ _ _ _ _ _); first | (exact eok_nil) | (refine ke_rd ?_ ?_ ?_; exact rfl) | (apply ke_rg; exact rfl; exact rfl) | (refine ke_cv ?_ ?_ ?_ ?_; exact rfl; kernel_rfl) | (apply ke_al; exact rfl; exact rfl)) | ((with_reducible refine freshIs_new ?_); kernel_rfl) | (simp only [B, xB, F, reduceLT, reduceLeDiff, reduceEqDiff, reduceAdd, reduceMul, reduceSub, ↓reduceIte, eq_self]))
    exact ⟨rfl, y, s', Only.trans0 ((o1.t o2).t o3) o4, nb.from ((o1.t o2).t o3).1, hx4⟩
  · have d3 : decide (e = 0) = false := decide_eq_false q
    repeat' (first | ((with_reducible refine st1 ?_); (conv => whnf); (with_reducible refine ⟨?_⟩)) | ((with_reducible refine st_dw ?_ rfl rfl ?_ ?_); exact rfl; kernel_rfl; (conv => arg 5; whnf); (conv => arg 3; whnf)) | ((with_reducible refine retW_intro rfl ?_); (conv => arg 2; whnf)) | ((with_reducible first | refine iB ?_ ?_ | refine gWt ?_ ?_ | refine gWf ?_ ?_ | refine gXt ?_ ?_ | refine gXf ?_ ?_) <;> intro hb <;> (try simp only [hb])) | ((with_reducible show drawI _ _ _ _ _ _ _ _ _); first | ((with_reducible refine kI_rd ?_ ?_); exact rfl) | ((with_reducible apply kI_rg); exact rfl; exact rfl) | ((with_reducible refine kI_cv ?_ ?_ ?_); exact rfl; kernel_rfl) | ((with_reducible apply kI_al); exact rfl; exact rfl) | ((with_reducible refine kI_ex ?_ ?_ ?_ ?_ ?_); exact rfl; kernel_rfl; exact rfl) | ((with_reducible apply kI_eg); exact rfl; kernel_rfl; exact rfl) | ((with_reducible refine kI_nl ?_ ?_))) | ((with_reducible show eOk _ _ _ _ _ _); first | (exact eok_nil) | (refine ke_rd ?_ ?_ ?_; exact rfl) | (apply ke_rg; exact rfl; exact rfl) | (refine ke_cv ?_ ?_ ?_ ?_; exact rfl; kernel_rfl) | (apply ke_al; exact rfl; exact rfl)) | ((with_reducible refine freshIs_new ?_); kernel_rfl) | (simp only [B, xB, F, reduceLT, reduceLeDiff, reduceEqDiff, reduceAdd, reduceMul, reduceSub, ↓reduceIte, eq_self, hyo, hyc, d3]))
    have o3 : Only h2 ((h2.newCells 26 [.nilslice]).sts h2.nx 0 [y]) [] := ((Only.refl _ _).new _ _).sts (.inr (Nat.le_refl _))
    refine ⟨rfl, y, s, Only.wide ((o1.t o2).t o3), fun c e => .inl e, ?_⟩
    rw [if_neg q]
    exact hx2.keep o3
end
end Go.Proofs.Ytlkngpckibidlaa.X

namespace Go.Proofs.Ytlkngpckibidlaa.X
open Go Go.AX
noncomputable section
set_option maxRecDepth 100000
variable {N : Nat → Prop}
theorem put1C (p : Nat → Prop) (h : H) (c : Nat) (y : AV) (L : List W.Gn) (r : W.Rv) (c0 : cellAt h c 0 = some (.int .u64 (.ofNat r.1))) (c1 : cellAt h c 1 = some (.int .u64 (.ofNat r.2))) (hc : c < h.nx) (hp : ∀ b, h.nx ≤ b → p b) (hg : W.GensP p h (.agg [y]) L) (hz : W.Sz 900 L) :
    PushC P (.enter 59 ([.agg [y]] ++ [.ptr c 0]) h) (W.PostE p h (W.putP L r) (W.putE L r)) := by
  obtain ⟨_, e', hgo, hgc⟩ := hg.val
  cases e'
  show PushC P (.enter 59 [.agg [y], .ptr c 0] h) _
  have n0 : (c = h.nx) = False := by simp; omega
  have n1 : (c = h.nx + 1) = False := by simp; omega
  have n2 : (c = h.nx + 2) = False := by simp; omega
  refine pushC_of_codeW (fn := Try.f59) (c := bodyC Try.f59) Try.func59 rfl ?_
  show codeW P 59 10 none _ _ _ _ _
  refine codeW_root ?_
  repeat' (first | ((with_reducible refine st1 ?_); (conv => whnf); (with_reducible refine ⟨?_⟩)) | ((with_reducible refine retW_intro rfl ?_); (conv => arg 2; whnf)) | ((with_reducible first | refine iB ?_ ?_ | refine gWt ?_ ?_ | refine gWf ?_ ?_) <;> intro hb <;> (try simp only [hb])) | (simp only [B, F, reduceLT, reduceLeDiff, reduceEqDiff, reduceAdd, reduceMul, reduceSub, ↓reduceIte, eq_self, hgo, hgc, c0, c1, n0, n1, n2]))
  obtain ⟨h1, h1e⟩ : ∃ h1, h1 = (h.newCells 26 [y]).newCells 26 [.nilslice] := ⟨_, rfl⟩
  have o1 : Only h h1 [] := by rw [h1e]; exact ((Only.refl _ _).new _ _).new _ _
  have x1 : h1.nx = h.nx + 2 := by rw [h1e]; rfl
  have z1 : cellAt h1 (h.nx + 1) 0 = some .nilslice := by rw [h1e]; simp only [B, F, reduceLT, reduceLeDiff, reduceEqDiff, reduceAdd, reduceMul, reduceSub, ↓reduceIte, eq_self]
  have w1 : wrAt h1 (h.nx + 1) = true := by rw [h1e]; simp only [B, F, reduceLT, reduceLeDiff, reduceEqDiff, reduceAdd, reduceMul, reduceSub, ↓reduceIte, eq_self]
  rw [← h1e]
  have hg1 : W.GensP (fun b => p b ∧ b ≠ h.nx + 1) h1 (.agg [y]) L := (hg.mono (q := fun b => p b ∧ b ≠ h.nx + 1) fun b hb e => ⟨e, by omega⟩).keep0 o1
  refine ((W.PutC (fun b => p b ∧ b ≠ h.nx + 1) h1 (.agg [y]) L r (fun b hb => ⟨hp b (by omega), by omega⟩) hg1 hz).call P).mono P ?_
  rintro v h2 ⟨o2, g2, rfl, hg2⟩
  obtain ⟨z, e', hzo, hzc⟩ := hg2.val
  subst e'
  have xo2 := o2.1
  have z2 := W.kcell z1 o2 (by omega) (by simp)
  have w2 := W.kwr w1 o2 (by omega) (by simp)
  unfold W.errV
  repeat' (first | ((with_reducible refine st1 ?_); (conv => whnf); (with_reducible refine ⟨?_⟩)) | ((with_reducible refine retW_intro rfl ?_); (conv => arg 2; whnf)) | ((with_reducible first | refine iB ?_ ?_ | refine gWt ?_ ?_ | refine gWf ?_ ?_) <;> intro hb <;> (try simp only [hb])) | (simp only [B, F, reduceLT, reduceLeDiff, reduceEqDiff, reduceAdd, reduceMul, reduceSub, ↓reduceIte, eq_self, hzo, hzc, z2, w2]))
  have o3 : Only h2 (h2.sts (h.nx + 1) 0 [z]) [h.nx + 1] := Only.sts (Only.refl _ _) (.inl (by simp))
  exact ⟨(o1.t o2).sts (.inr (by omega)), .agg [z], rfl, (hg2.keep o3 (fun c q e => by simp at q; exact e.2 q)).mono fun b _ e => e.1⟩
theorem IxPutC (h : H) (b : Nat) (k : List Nat) (R : List Pr) (s : AV) (r : W.Rv) (hx : IxR N h b R s) (hz : R.length < 100000) (hk : keyOk k) (hsz : W.Sz 900 (getL k R)) :
    PushC P (.enter 35 [.ptr b 0, .str k, W.rvA r] h) (PostCh N h b k R s (W.putP (getL k R) r) (W.putE (getL k R) r)) := by
  have hlt := hx.ix.lt
  unfold W.rvA W.rvC
  refine pushC_of_codeW (fn := Try.f35) (c := bodyC Try.f35) Try.func35 rfl ?_
  show codeW P 35 11 none _ _ _ _ _
  refine codeW_root ?_
  repeat' (first | ((with_reducible refine st1 ?_); (conv => whnf); (with_reducible refine ⟨?_⟩)) | ((with_reducible refine retW_intro rfl ?_); (conv => arg 2; whnf)) | ((with_reducible first | refine iB ?_ ?_ | refine gWt ?_ ?_ | refine gWf ?_ ?_) <;> intro hb <;> (try simp only [hb])) | (simp only [B, F, reduceLT, reduceLeDiff, reduceEqDiff, reduceAdd, reduceMul, reduceSub, ↓reduceIte, eq_self]))
  obtain ⟨h1, h1e⟩ : ∃ h1, h1 = h.newCells 35 [.int .u64 (.ofNat r.1), .int .u64 (.ofNat r.2)] := ⟨_, rfl⟩
  have o1 : Only h h1 [] := by rw [h1e]; exact (Only.refl _ _).new _ _
  have x1 : h1.nx = h.nx + 1 := by rw [h1e]; rfl
  have z0 : cellAt h1 h.nx 0 = some (.int .u64 (.ofNat r.1)) := by rw [h1e]; simp only [B, F, reduceLT, reduceLeDiff, reduceEqDiff, reduceAdd, reduceMul, reduceSub, ↓reduceIte, eq_self]
  have z1 : cellAt h1 h.nx 1 = some (.int .u64 (.ofNat r.2)) := by rw [h1e]; simp only [B, F, reduceLT, reduceLeDiff, reduceEqDiff, reduceAdd, reduceMul, reduceSub, ↓reduceIte, eq_self]
  have xs : ∀ c, blkOf s = some c → c < h.nx := hx.ix.sl.blk
  rw [← h1e]
  refine ((changeC 59 (by kernel_rfl) [.ptr h.nx 0] h1 b k R s _ _ (hx.keep o1) hz hk fun h2 y o2 hg => put1C (offI N b s) h2 h.nx y _ r (W.kcell z0 o2 (by omega) (by simp)) (W.kcell z1 o2 (by omega) (by simp)) (by have := o2.1; omega) (fun c hc => ⟨(fun e => by have := o2.1; omega), (fun e => by have := o2.1; have := xs c e; omega), hx.ix.fl c (by have := o2.1; omega)⟩) hg hsz).call P).mono P ?_
  rintro v h3 ⟨rfl, g, s', o3, nb, hx3⟩
  repeat' (first | ((with_reducible refine st1 ?_); (conv => whnf); (with_reducible refine ⟨?_⟩)) | ((with_reducible refine retW_intro rfl ?_); (conv => arg 2; whnf)) | ((with_reducible first | refine iB ?_ ?_ | refine gWt ?_ ?_ | refine gWf ?_ ?_) <;> intro hb <;> (try simp only [hb])) | (simp only [B, F, reduceLT, reduceLeDiff, reduceEqDiff, reduceAdd, reduceMul, reduceSub, ↓reduceIte, eq_self]))
  exact ⟨rfl, g, s', Only.trans0 o1 o3, nb.from o1.1, hx3⟩
theorem tomb1C (p : Nat → Prop) (h : H) (c : Nat) (y : AV) (L : List W.Gn) (r : W.Rv) (c0 : cellAt h c 0 = some (.int .u64 (.ofNat r.1))) (c1 : cellAt h c 1 = some (.int .u64 (.ofNat r.2))) (hc : c < h.nx) (hp : ∀ b, h.nx ≤ b → p b) (hg : W.GensP p h (.agg [y]) L) (hz : W.Sz 900 L) (hq : W.Opq L) :
    PushC P (.enter 60 ([.agg [y]] ++ [.ptr c 0]) h) (W.PostE p h (W.tombP L r) (W.tombE L r)) := by
  obtain ⟨_, e', hgo, hgc⟩ := hg.val
  cases e'
  show PushC P (.enter 60 [.agg [y], .ptr c 0] h) _
  have n0 : (c = h.nx) = False := by simp; omega
  have n1 : (c = h.nx + 1) = False := by simp; omega
  have n2 : (c = h.nx + 2) = False := by simp; omega
  refine pushC_of_codeW (fn := Try.f60) (c := bodyC Try.f60) Try.func60 rfl ?_
  show codeW P 60 10 none _ _ _ _ _
  refine codeW_root ?_
  repeat' (first | ((with_reducible refine st1 ?_); (conv => whnf); (with_reducible refine ⟨?_⟩)) | ((with_reducible refine retW_intro rfl ?_); (conv => arg 2; whnf)) | ((with_reducible first | refine iB ?_ ?_ | refine gWt ?_ ?_ | refine gWf ?_ ?_) <;> intro hb <;> (try simp only [hb])) | (simp only [B, F, reduceLT, reduceLeDiff, reduceEqDiff, reduceAdd, reduceMul, reduceSub, ↓reduceIte, eq_self, hgo, hgc, c0, c1, n0, n1, n2]))
  obtain ⟨h1, h1e⟩ : ∃ h1, h1 = (h.newCells 26 [y]).newCells 26 [.nilslice] := ⟨_, rfl⟩
  have o1 : Only h h1 [] := by rw [h1e]; exact ((Only.refl _ _).new _ _).new _ _
  have x1 : h1.nx = h.nx + 2 := by rw [h1e]; rfl
  have z1 : cellAt h1 (h.nx + 1) 0 = some .nilslice := by rw [h1e]; simp only [B, F, reduceLT, reduceLeDiff, reduceEqDiff, reduceAdd, reduceMul, reduceSub, ↓reduceIte, eq_self]
  have w1 : wrAt h1 (h.nx + 1) = true := by rw [h1e]; simp only [B, F, reduceLT, reduceLeDiff, reduceEqDiff, reduceAdd, reduceMul, reduceSub, ↓reduceIte, eq_self]
  rw [← h1e]
  have hg1 : W.GensP (fun b => p b ∧ b ≠ h.nx + 1) h1 (.agg [y]) L := (hg.mono (q := fun b => p b ∧ b ≠ h.nx + 1) fun b hb e => ⟨e, by omega⟩).keep0 o1
  refine ((W.TombC (fun b => p b ∧ b ≠ h.nx + 1) h1 (.agg [y]) L r (fun b hb => ⟨hp b (by omega), by omega⟩) hg1 hz hq).call P).mono P ?_
  rintro v h2 ⟨o2, g2, rfl, hg2⟩
  obtain ⟨z, e', hzo, hzc⟩ := hg2.val
  subst e'
  have xo2 := o2.1
  have z2 := W.kcell z1 o2 (by omega) (by simp)
  have w2 := W.kwr w1 o2 (by omega) (by simp)
  unfold W.errV
  repeat' (first | ((with_reducible refine st1 ?_); (conv => whnf); (with_reducible refine ⟨?_⟩)) | ((with_reducible refine retW_intro rfl ?_); (conv => arg 2; whnf)) | ((with_reducible first | refine iB ?_ ?_ | refine gWt ?_ ?_ | refine gWf ?_ ?_) <;> intro hb <;> (try simp only [hb])) | (simp only [B, F, reduceLT, reduceLeDiff, reduceEqDiff, reduceAdd, reduceMul, reduceSub, ↓reduceIte, eq_self, hzo, hzc, z2, w2]))
  have o3 : Only h2 (h2.sts (h.nx + 1) 0 [z]) [h.nx + 1] := Only.sts (Only.refl _ _) (.inl (by simp))
  exact ⟨(o1.t o2).sts (.inr (by omega)), .agg [z], rfl, (hg2.keep o3 (fun c q e => by simp at q; exact e.2 q)).mono fun b _ e => e.1⟩
theorem IxTombC (h : H) (b : Nat) (k : List Nat) (R : List Pr) (s : AV) (r : W.Rv) (hx : IxR N h b R s) (hz : R.length < 100000) (hk : keyOk k) (hsz : W.Sz 900 (getL k R)) (hq : W.Opq (getL k R)) :
    PushC P (.enter 36 [.ptr b 0, .str k, W.rvA r] h) (PostCh N h b k R s (W.tombP (getL k R) r) (W.tombE (getL k R) r)) := by
  have hlt := hx.ix.lt
  unfold W.rvA W.rvC
  refine pushC_of_codeW (fn := Try.f36) (c := bodyC Try.f36) Try.func36 rfl ?_
  show codeW P 36 11 none _ _ _ _ _
  refine codeW_root ?_
  repeat' (first | ((with_reducible refine st1 ?_); (conv => whnf); (with_reducible refine ⟨?_⟩)) | ((with_reducible refine retW_intro rfl ?_); (conv => arg 2; whnf)) | ((with_reducible first | refine iB ?_ ?_ | refine gWt ?_ ?_ | refine gWf ?_ ?_) <;> intro hb <;> (try simp only [hb])) | (simp only [B, F, reduceLT, reduceLeDiff, reduceEqDiff, reduceAdd, reduceMul, reduceSub, ↓reduceIte, eq_self]))
  obtain ⟨h1, h1e⟩ : ∃ h1, h1 = h.newCells 35 [.int .u64 (.ofNat r.1), .int .u64 (.ofNat r.2)] := ⟨_, rfl⟩
  have o1 : Only h h1 [] := by rw [h1e]; exact (Only.refl _ _).new _ _
  have x1 : h1.nx = h.nx + 1 := by rw [h1e]; rfl
  have z0 : cellAt h1 h.nx 0 = some (.int .u64 (.ofNat r.1)) := by rw [h1e]; simp only [B, F, reduceLT, reduceLeDiff, reduceEqDiff, reduceAdd, reduceMul, reduceSub, ↓reduceIte, eq_self]
  have z1 : cellAt h1 h.nx 1 = some (.int .u64 (.ofNat r.2)) := by rw [h1e]; simp only [B, F, reduceLT, reduceLeDiff, reduceEqDiff, reduceAdd, reduceMul, reduceSub, ↓reduceIte, eq_self]
  have xs : ∀ c, blkOf s = some c → c < h.nx := hx.ix.sl.blk
  rw [← h1e]
  refine ((changeC 60 (by kernel_rfl) [.ptr h.nx 0] h1 b k R s _ _ (hx.keep o1) hz hk fun h2 y o2 hg => tomb1C (offI N b s) h2 h.nx y _ r (W.kcell z0 o2 (by omega) (by simp)) (W.kcell z1 o2 (by omega) (by simp)) (by have := o2.1; omega) (fun c hc => ⟨(fun e => by have := o2.1; omega), (fun e => by have := o2.1; have := xs c e; omega), hx.ix.fl c (by have := o2.1; omega)⟩) hg hsz hq).call P).mono P ?_
  rintro v h3 ⟨rfl, g, s', o3, nb, hx3⟩
  repeat' (first | ((with_reducible refine st1 ?_); (conv => whnf); (with_reducible refine ⟨?_⟩)) | ((with_reducible refine retW_intro rfl ?_); (conv => arg 2; whnf)) | ((with_reducible first | refine iB ?_ ?_ | refine gWt ?_ ?_ | refine gWf ?_ ?_) <;> intro hb <;> (try simp only [hb])) | (simp only [B, F, reduceLT, reduceLeDiff, reduceEqDiff, reduceAdd, reduceMul, reduceSub, ↓reduceIte, eq_self]))
  exact ⟨rfl, g, s', Only.trans0 o1 o3, nb.from o1.1, hx3⟩
end
end Go.Proofs.Ytlkngpckibidlaa.X

namespace Go.Proofs.Ytlkngpckibidlaa.X
open Go Go.AX
noncomputable section
set_option maxRecDepth 100000
variable {N : Nat → Prop}
structure Rc where
  rev : W.Rv
  key : List Nat
  val : List Nat
  create : Nat
  mod : Nat
  version : Nat
  tomb : Bool
def rcC (r : Rc) : List AV := [.int .u64 (.ofNat r.rev.1), .int .u64 (.ofNat r.rev.2), .str r.key, .str r.val, .int .u64 (.ofNat r.create), .int .u64 (.ofNat r.mod), .int .u64 (.ofNat r.version), .bool r.tomb]
def rcA (r : Rc) : AV := .agg (rcC r)
theorem rest1C (p : Nat → Prop) (h : H) (c : Nat) (y : AV) (L : List W.Gn) (r : Rc) (hcs : ∀ i, i < 8 → cellAt h c i = (rcC r)[i]?) (hc : c < h.nx) (hp : ∀ b, h.nx ≤ b → p b) (hg : W.GensP p h (.agg [y]) L) (hz : W.Sz 900 L) :
    PushC P (.enter 61 ([.agg [y]] ++ [.ptr c 0]) h) (W.PostE p h (W.restP L r.rev r.create r.version) (W.restE L r.rev r.create r.version)) := by
  obtain ⟨_, e', hgo, hgc⟩ := hg.val
  cases e'
  show PushC P (.enter 61 [.agg [y], .ptr c 0] h) _
  have c0 : cellAt h c 0 = some (.int .u64 (.ofNat r.rev.1)) := hcs 0 (by omega)
  have c1 : cellAt h c 1 = some (.int .u64 (.ofNat r.rev.2)) := hcs 1 (by omega)
  have c4 : cellAt h c 4 = some (.int .u64 (.ofNat r.create)) := hcs 4 (by omega)
  have c6 : cellAt h c 6 = some (.int .u64 (.ofNat r.version)) := hcs 6 (by omega)
  have n0 : (c = h.nx) = False := by simp; omega
  have n1 : (c = h.nx + 1) = False := by simp; omega
  have n2 : (c = h.nx + 2) = False := by simp; omega
  refine pushC_of_codeW (fn := Try.f61) (c := bodyC Try.f61) Try.func61 rfl ?_
  show codeW P 61 17 none _ _ _ _ _
  refine codeW_root ?_
  repeat' (first | ((with_reducible refine st1 ?_); (conv => whnf); (with_reducible refine ⟨?_⟩)) | ((with_reducible refine retW_intro rfl ?_); (conv => arg 2; whnf)) | ((with_reducible first | refine iB ?_ ?_ | refine gWt ?_ ?_ | refine gWf ?_ ?_) <;> intro hb <;> (try simp only [hb])) | (simp only [B, F, reduceLT, reduceLeDiff, reduceEqDiff, reduceAdd, reduceMul, reduceSub, ↓reduceIte, eq_self, hgo, hgc, c0, c1, c4, c6, n0, n1, n2]))
  obtain ⟨h1, h1e⟩ : ∃ h1, h1 = (h.newCells 26 [y]).newCells 26 [.nilslice] := ⟨_, rfl⟩
  have o1 : Only h h1 [] := by rw [h1e]; exact ((Only.refl _ _).new _ _).new _ _
  have x1 : h1.nx = h.nx + 2 := by rw [h1e]; rfl
  have z1 : cellAt h1 (h.nx + 1) 0 = some .nilslice := by rw [h1e]; simp only [B, F, reduceLT, reduceLeDiff, reduceEqDiff, reduceAdd, reduceMul, reduceSub, ↓reduceIte, eq_self]
  have w1 : wrAt h1 (h.nx + 1) = true := by rw [h1e]; simp only [B, F, reduceLT, reduceLeDiff, reduceEqDiff, reduceAdd, reduceMul, reduceSub, ↓reduceIte, eq_self]
  rw [← h1e]
  have hg1 : W.GensP (fun b => p b ∧ b ≠ h.nx + 1) h1 (.agg [y]) L := (hg.mono (q := fun b => p b ∧ b ≠ h.nx + 1) fun b hb e => ⟨e, by omega⟩).keep0 o1
  refine ((W.RestC (fun b => p b ∧ b ≠ h.nx + 1) h1 (.agg [y]) L r.rev r.create r.version (fun b hb => ⟨hp b (by omega), by omega⟩) hg1 hz).call P).mono P ?_
  rintro v h2 ⟨o2, g2, rfl, hg2⟩
  obtain ⟨z, e', hzo, hzc⟩ := hg2.val
  subst e'
  have xo2 := o2.1
  have z2 := W.kcell z1 o2 (by omega) (by simp)
  have w2 := W.kwr w1 o2 (by omega) (by simp)
  unfold W.errV
  repeat' (first | ((with_reducible refine st1 ?_); (conv => whnf); (with_reducible refine ⟨?_⟩)) | ((with_reducible refine retW_intro rfl ?_); (conv => arg 2; whnf)) | ((with_reducible first | refine iB ?_ ?_ | refine gWt ?_ ?_ | refine gWf ?_ ?_) <;> intro hb <;> (try simp only [hb])) | (simp only [B, F, reduceLT, reduceLeDiff, reduceEqDiff, reduceAdd, reduceMul, reduceSub, ↓reduceIte, eq_self, hzo, hzc, z2, w2]))
  have o3 : Only h2 (h2.sts (h.nx + 1) 0 [z]) [h.nx + 1] := Only.sts (Only.refl _ _) (.inl (by simp))
  exact ⟨(o1.t o2).sts (.inr (by omega)), .agg [z], rfl, (hg2.keep o3 (fun c q e => by simp at q; exact e.2 q)).mono fun b _ e => e.1⟩
theorem IxRestC (h : H) (b : Nat) (R : List Pr) (s : AV) (r : Rc) (hx : IxR N h b R s) (hz : R.length < 100000) (hk : keyOk r.key) (hsz : W.Sz 900 (getL r.key R)) (ht : r.tomb = false) :
    PushC P (.enter 37 [.ptr b 0, rcA r] h) (PostCh N h b r.key R s (W.restP (getL r.key R) r.rev r.create r.version) (W.restE (getL r.key R) r.rev r.create r.version)) := by
  have hlt := hx.ix.lt
  unfold rcA rcC
  refine pushC_of_codeW (fn := Try.f37) (c := bodyC Try.f37) Try.func37 rfl ?_
  show codeW P 37 24 none _ _ _ _ _
  refine codeW_root ?_
  repeat' (first | ((with_reducible refine st1 ?_); (conv => whnf); (with_reducible refine ⟨?_⟩)) | ((with_reducible refine retW_intro rfl ?_); (conv => arg 2; whnf)) | ((with_reducible first | refine iB ?_ ?_ | refine gWt ?_ ?_ | refine gWf ?_ ?_) <;> intro hb <;> (try simp only [hb])) | (simp only [B, F, reduceLT, reduceLeDiff, reduceEqDiff, reduceAdd, reduceMul, reduceSub, ↓reduceIte, eq_self, ht]))
  obtain ⟨h1, h1e⟩ : ∃ h1, h1 = h.newCells 68 (rcC r) := ⟨_, rfl⟩
  have o1 : Only h h1 [] := by rw [h1e]; exact (Only.refl _ _).new _ _
  have x1 : h1.nx = h.nx + 1 := by rw [h1e]; rfl
  have z0 : ∀ i, i < 8 → cellAt h1 h.nx i = (rcC r)[i]? := fun i hi => by rw [h1e, cellAt_new, if_pos rfl]
  have xs : ∀ c, blkOf s = some c → c < h.nx := hx.ix.sl.blk
  have h1e' := h1e
  unfold rcC at h1e'
  rw [ht] at h1e'
  rw [← h1e']
  refine ((changeC 61 (by kernel_rfl) [.ptr h.nx 0] h1 b r.key R s _ _ (hx.keep o1) hz hk fun h2 y o2 hg => rest1C (offI N b s) h2 h.nx y _ r (fun i hi => W.kcell (z0 i hi) o2 (by omega) (by simp)) (by have := o2.1; omega) (fun c hc => ⟨(fun e => by have := o2.1; omega), (fun e => by have := o2.1; have := xs c e; omega), hx.ix.fl c (by have := o2.1; omega)⟩) hg hsz).call P).mono P ?_
  rintro v h3 ⟨rfl, g, s', o3, nb, hx3⟩
  repeat' (first | ((with_reducible refine st1 ?_); (conv => whnf); (with_reducible refine ⟨?_⟩)) | ((with_reducible refine retW_intro rfl ?_); (conv => arg 2; whnf)) | ((with_reducible first | refine iB ?_ ?_ | refine gWt ?_ ?_ | refine gWf ?_ ?_) <;> intro hb <;> (try simp only [hb])) | (simp only [B, F, reduceLT, reduceLeDiff, reduceEqDiff, reduceAdd, reduceMul, reduceSub, ↓reduceIte, eq_self]))
  exact ⟨rfl, g, s', Only.trans0 o1 o3, nb.from o1.1, hx3⟩
theorem IxRestT (h : H) (b : Nat) (R : List Pr) (s : AV) (r : Rc) (hx : IxR N h b R s) (hz : R.length < 100000) (hk : keyOk r.key) (hsz : W.Sz 900 (getL r.key R)) (hq : W.Opq (getL r.key R)) (ht : r.tomb = true) :
    PushC P (.enter 37 [.ptr b 0, rcA r] h) fun v h' => v = W.errV (if W.tombE (getL r.key R) r.rev = 5 then 0 else W.tombE (getL r.key R) r.rev) ∧
      ∃ g s', Only h h' (b :: rowL s) ∧ Nb h s s' ∧ IxR N h' b (if W.tombE (getL r.key R) r.rev = 0 then setI r.key (W.tombP (getL r.key R) r.rev) g R else R) s' := by
  have hlt := hx.ix.lt
  unfold rcA rcC
  refine pushC_of_codeW (fn := Try.f37) (c := bodyC Try.f37) Try.func37 rfl ?_
  show codeW P 37 24 none _ _ _ _ _
  refine codeW_root ?_
  repeat' (first | ((with_reducible refine st1 ?_); (conv => whnf); (with_reducible refine ⟨?_⟩)) | ((with_reducible refine retW_intro rfl ?_); (conv => arg 2; whnf)) | ((with_reducible first | refine iB ?_ ?_ | refine gWt ?_ ?_ | refine gWf ?_ ?_) <;> intro hb <;> (try simp only [hb])) | (simp only [B, F, reduceLT, reduceLeDiff, reduceEqDiff, reduceAdd, reduceMul, reduceSub, ↓reduceIte, eq_self, ht]))
  obtain ⟨h1, h1e⟩ : ∃ h1, h1 = h.newCells 68 (rcC r) := ⟨_, rfl⟩
  have o1 : Only h h1 [] := by rw [h1e]; exact (Only.refl _ _).new _ _
  have h1e' := h1e
  unfold rcC at h1e'
  rw [ht] at h1e'
  rw [← h1e']
  refine ((IxTombC h1 b r.key R s r.rev (hx.keep o1) hz hk hsz hq).call P).mono P ?_
  rintro v h3 ⟨rfl, g, s', o3, nb, hx3⟩
  obtain ⟨e, he⟩ : ∃ e, e = W.tombE (getL r.key R) r.rev := ⟨_, rfl⟩
  rw [← he] at hx3 ⊢
  unfold W.errV
  by_cases q : e = 5
  · have d : decide (e = 5) = true := decide_eq_true q
    repeat' (first | ((with_reducible refine st1 ?_); (conv => whnf); (with_reducible refine ⟨?_⟩)) | ((with_reducible refine retW_intro rfl ?_); (conv => arg 2; whnf)) | ((with_reducible first | refine iB ?_ ?_ | refine gWt ?_ ?_ | refine gWf ?_ ?_) <;> intro hb <;> (try simp only [hb])) | (simp only [B, F, reduceLT, reduceLeDiff, reduceEqDiff, reduceAdd, reduceMul, reduceSub, ↓reduceIte, eq_self, d]))
    exact ⟨by rw [if_pos q], g, s', Only.trans0 o1 o3, nb.from o1.1, hx3⟩
  · have d : decide (e = 5) = false := decide_eq_false q
    repeat' (first | ((with_reducible refine st1 ?_); (conv => whnf); (with_reducible refine ⟨?_⟩)) | ((with_reducible refine retW_intro rfl ?_); (conv => arg 2; whnf)) | ((with_reducible first | refine iB ?_ ?_ | refine gWt ?_ ?_ | refine gWf ?_ ?_) <;> intro hb <;> (try simp only [hb])) | (simp only [B, F, reduceLT, reduceLeDiff, reduceEqDiff, reduceAdd, reduceMul, reduceSub, ↓reduceIte, eq_self, d]))
    exact ⟨by rw [if_neg q], g, s', Only.trans0 o1 o3, nb.from o1.1, hx3⟩
end
end Go.Proofs.Ytlkngpckibidlaa.X

namespace Go.Proofs.Ytlkngpckibidlaa.X
open Go Go.AX
noncomputable section
set_option maxRecDepth 100000
variable {N : Nat → Prop}
theorem newC (h : H) : PushC P (.enter 41 [] h) fun v h' => v = .ptr h.nx 0 ∧ Only h h' [] ∧ h'.nx = h.nx + 1 ∧ ∀ N : Nat → Prop, (∀ c, h'.nx ≤ c → N c) → IxR N h' h.nx [] .nilslice := by
  refine pushC_of_codeW (fn := Try.f41) (c := bodyC Try.f41) Try.func41 rfl ?_
  show codeW P 41 3 none _ _ _ _ _
  refine codeW_root ?_
  repeat' (first | ((with_reducible refine st1 ?_); (conv => whnf); (with_reducible refine ⟨?_⟩)) | ((with_reducible refine retW_intro rfl ?_); (conv => arg 2; whnf)) | ((with_reducible first | refine iB ?_ ?_ | refine gWt ?_ ?_ | refine gWf ?_ ?_) <;> intro hb <;> (try simp only [hb])) | (simp only [B, F, reduceLT, reduceLeDiff, reduceEqDiff, reduceAdd, reduceMul, reduceSub, ↓reduceIte, eq_self]))
  obtain ⟨h1, h1e⟩ : ∃ h1, h1 = h.newCells 112 [.nilslice] := ⟨_, rfl⟩
  have o1 : Only h h1 [] := by rw [h1e]; exact (Only.refl _ _).new _ _
  have x1 : h1.nx = h.nx + 1 := by rw [h1e]; rfl
  have z0 : cellAt h1 h.nx 0 = some .nilslice := by rw [h1e]; simp only [B, F, reduceLT, reduceLeDiff, reduceEqDiff, reduceAdd, reduceMul, reduceSub, ↓reduceIte, eq_self]
  have zw : wrAt h1 h.nx = true := by rw [h1e]; simp only [B, F, reduceLT, reduceLeDiff, reduceEqDiff, reduceAdd, reduceMul, reduceSub, ↓reduceIte, eq_self]
  rw [← h1e]
  exact ⟨o1, fun N hN => ⟨⟨⟨by omega, z0, .none, fun p hp => (by cases hp), List.Pairwise.nil, by simp, fun c hc => hN c (by omega)⟩, .nil, zw, fun e => by cases e⟩, rfl⟩⟩
theorem lenC (h : H) (b : Nat) (R : List Pr) (s : AV) (hx : IxR N h b R s) : PushC P (.enter 32 [.ptr b 0] h) (W.Says h (.int .i64 (.ofNat R.length))) := by
  have c0 := hx.ix.c0
  have hso := W.SliceAt.one hx.ix.sl
  have hlen := hx.ix.sl.len (P := P) u105
  refine pushC_of_codeW (fn := Try.f32) (c := bodyC Try.f32) Try.func32 rfl ?_
  show codeW P 32 11 none _ _ _ _ _
  refine codeW_root ?_
  repeat' (first | ((with_reducible refine st1 ?_); (conv => whnf); (with_reducible refine ⟨?_⟩)) | ((with_reducible refine retW_intro rfl ?_); (conv => arg 2; whnf)) | ((with_reducible first | refine iB ?_ ?_ | refine gWt ?_ ?_ | refine gWf ?_ ?_) <;> intro hb <;> (try simp only [hb])) | (simp only [B, F, reduceLT, reduceLeDiff, reduceEqDiff, reduceAdd, reduceMul, reduceSub, ↓reduceIte, eq_self, c0, hso, hlen]))
  exact ⟨rfl, Only.refl _ _⟩
theorem ofC (h : H) (b : Nat) (k : List Nat) (R : List Pr) (s : AV) (hx : IxR N h b R s) : PushC P (.enter 39 [.ptr b 0, .str k] h) fun v h' => Only h h' [] ∧ W.GensP (offI N b s) h' v (getL k R) := by
  refine pushC_of_codeW (fn := Try.f39) (c := bodyC Try.f39) Try.func39 rfl ?_
  show codeW P 39 13 none _ _ _ _ _
  refine codeW_root ?_
  repeat' (first | ((with_reducible refine st1 ?_); (conv => whnf); (with_reducible refine ⟨?_⟩)) | ((with_reducible refine retW_intro rfl ?_); (conv => arg 2; whnf)) | ((with_reducible first | refine iB ?_ ?_ | refine gWt ?_ ?_ | refine gWf ?_ ?_) <;> intro hb <;> (try simp only [hb])) | (simp only [B, F, reduceLT, reduceLeDiff, reduceEqDiff, reduceAdd, reduceMul, reduceSub, ↓reduceIte, eq_self]))
  obtain ⟨h1, h1e⟩ : ∃ h1, h1 = h.newCells 26 [.nilslice] := ⟨_, rfl⟩
  have o1 : Only h h1 [] := by rw [h1e]; exact (Only.refl _ _).new _ _
  have x1 : h1.nx = h.nx + 1 := by rw [h1e]; rfl
  have z1 : cellAt h1 h.nx 0 = some .nilslice := by rw [h1e]; simp only [B, F, reduceLT, reduceLeDiff, reduceEqDiff, reduceAdd, reduceMul, reduceSub, ↓reduceIte, eq_self]
  have w1 : wrAt h1 h.nx = true := by rw [h1e]; simp only [B, F, reduceLT, reduceLeDiff, reduceEqDiff, reduceAdd, reduceMul, reduceSub, ↓reduceIte, eq_self]
  rw [← h1e]
  refine ((getC (fun c => offI N b s c ∧ c ≠ h.nx) h1 b k R s (hx.keep o1).ix (fun p hp => ((hx.ix.gg p hp).mono (q := fun c => offI N b s c ∧ c ≠ h.nx) fun c hc e => ⟨e, by omega⟩).keep0 o1)).call P).mono P ?_
  rintro v h2 ⟨o2, g, rfl, hg, -⟩
  obtain ⟨_, e', hgo, hgc⟩ := hg.val
  cases e'
  have xo2 := o2.1
  have z2 := W.kcell z1 o2 (by omega) (by simp)
  have w2 := W.kwr w1 o2 (by omega) (by simp)
  repeat' (first | ((with_reducible refine st1 ?_); (conv => whnf); (with_reducible refine ⟨?_⟩)) | ((with_reducible refine retW_intro rfl ?_); (conv => arg 2; whnf)) | ((with_reducible first | refine iB ?_ ?_ | refine gWt ?_ ?_ | refine gWf ?_ ?_) <;> intro hb <;> (try simp only [hb])) | (simp only [B, F, reduceLT, reduceLeDiff, reduceEqDiff, reduceAdd, reduceMul, reduceSub, ↓reduceIte, eq_self, hgo, hgc, z2, w2]))
  have o3 : Only h2 (h2.sts h.nx 0 [g]) [h.nx] := Only.sts (Only.refl _ _) (.inl (by simp))
  exact ⟨(o1.t o2).sts (.inr (Nat.le_refl _)), (hg.keep o3 (fun c q e => by simp at q; exact e.2 q)).mono fun c _ e => e.1⟩
def itV (k : List Nat) (L : List W.Gn) (m : Nat) : List AV :=
  if W.atB L m then [.str k, .int .u64 (.ofNat (W.atK L m).rev.1), .int .u64 (.ofNat (W.atK L m).rev.2), .int .u64 (.ofNat (W.atK L m).made), .int .u64 (.ofNat (W.atK L m).nth)]
  else [.str [], .int .u64 (.ofNat 0), .int .u64 (.ofNat 0), .int .u64 (.ofNat 0), .int .u64 (.ofNat 0)]
theorem itemC (h : H) (k : List Nat) (g : AV) (L : List W.Gn) (m : Nat) (hg : W.GensAt h (.agg [g]) L) (hz : W.Sz 1000 L) : PushC P (.enter 57 [.str k, .agg [g], W.n64 m] h) (W.Says h (.tuple [.agg (itV k L m), .bool (W.atB L m)])) := by
  obtain ⟨_, e', hgo, hgc⟩ := hg.val
  cases e'
  unfold W.n64
  refine pushC_of_codeW (fn := Try.f57) (c := bodyC Try.f57) Try.func57 rfl ?_
  show codeW P 57 28 none _ _ _ _ _
  refine codeW_root ?_
  repeat' (first | ((with_reducible refine st1 ?_); (conv => whnf); (with_reducible refine ⟨?_⟩)) | ((with_reducible refine retW_intro rfl ?_); (conv => arg 2; whnf)) | ((with_reducible first | refine iB ?_ ?_ | refine gWt ?_ ?_ | refine gWf ?_ ?_) <;> intro hb <;> (try simp only [hb])) | (simp only [B, F, reduceLT, reduceLeDiff, reduceEqDiff, reduceAdd, reduceMul, reduceSub, ↓reduceIte, eq_self, hgo, hgc]))
  obtain ⟨h1, h1e⟩ : ∃ h1, h1 = (h.newCells 26 [g]).newCells 81 [.str [], .int .u64 (.ofNat 0), .int .u64 (.ofNat 0), .int .u64 (.ofNat 0), .int .u64 (.ofNat 0)] := ⟨_, rfl⟩
  have o1 : Only h h1 [] := by rw [h1e]; exact ((Only.refl _ _).new _ _).new _ _
  have x1 : h1.nx = h.nx + 2 := by rw [h1e]; rfl
  have z0 : cellAt h1 (h.nx + 1) 0 = some (.str []) := by rw [h1e]; simp only [B, F, reduceLT, reduceLeDiff, reduceEqDiff, reduceAdd, reduceMul, reduceSub, ↓reduceIte, eq_self]
  have z1 : cellAt h1 (h.nx + 1) 1 = some (.int .u64 (.ofNat 0)) := by rw [h1e]; simp only [B, F, reduceLT, reduceLeDiff, reduceEqDiff, reduceAdd, reduceMul, reduceSub, ↓reduceIte, eq_self]
  have z2 : cellAt h1 (h.nx + 1) 2 = some (.int .u64 (.ofNat 0)) := by rw [h1e]; simp only [B, F, reduceLT, reduceLeDiff, reduceEqDiff, reduceAdd, reduceMul, reduceSub, ↓reduceIte, eq_self]
  have z3 : cellAt h1 (h.nx + 1) 3 = some (.int .u64 (.ofNat 0)) := by rw [h1e]; simp only [B, F, reduceLT, reduceLeDiff, reduceEqDiff, reduceAdd, reduceMul, reduceSub, ↓reduceIte, eq_self]
  have z4 : cellAt h1 (h.nx + 1) 4 = some (.int .u64 (.ofNat 0)) := by rw [h1e]; simp only [B, F, reduceLT, reduceLeDiff, reduceEqDiff, reduceAdd, reduceMul, reduceSub, ↓reduceIte, eq_self]
  have w1 : wrAt h1 (h.nx + 1) = true := by rw [h1e]; simp only [B, F, reduceLT, reduceLeDiff, reduceEqDiff, reduceAdd, reduceMul, reduceSub, ↓reduceIte, eq_self]
  rw [← h1e]
  refine ((W.atC h1 (.agg [g]) L m (hg.keep o1) hz).call P).mono P ?_
  rintro v h2 ⟨rfl, o2⟩
  have xo2 := o2.1
  unfold W.rvA W.rvC W.n64
  have y0 := W.kcell z0 o2 (by omega) (by simp)
  have y1 := W.kcell z1 o2 (by omega) (by simp)
  have y2 := W.kcell z2 o2 (by omega) (by simp)
  have y3 := W.kcell z3 o2 (by omega) (by simp)
  have y4 := W.kcell z4 o2 (by omega) (by simp)
  have v2 := W.kwr w1 o2 (by omega) (by simp)
  have ne : (h.nx + 1 = h2.nx) = False := by simp; omega
  cases q : W.atB L m with
  | true =>
    repeat' (first | ((with_reducible refine st1 ?_); (conv => whnf); (with_reducible refine ⟨?_⟩)) | ((with_reducible refine retW_intro rfl ?_); (conv => arg 2; whnf)) | ((with_reducible first | refine iB ?_ ?_ | refine gWt ?_ ?_ | refine gWf ?_ ?_) <;> intro hb <;> (try simp only [hb])) | (simp only [B, F, reduceLT, reduceLeDiff, reduceEqDiff, reduceAdd, reduceMul, reduceSub, ↓reduceIte, eq_self, y0, y1, y2, y3, y4, v2, ne]))
    exact ⟨by unfold itV; rw [q]; rfl, (((o1.t o2).new _ _).sts (.inr (by omega))).sts (.inr (by omega))⟩
  | false =>
    repeat' (first | ((with_reducible refine st1 ?_); (conv => whnf); (with_reducible refine ⟨?_⟩)) | ((with_reducible refine retW_intro rfl ?_); (conv => arg 2; whnf)) | ((with_reducible first | refine iB ?_ ?_ | refine gWt ?_ ?_ | refine gWf ?_ ?_) <;> intro hb <;> (try simp only [hb])) | (simp only [B, F, reduceLT, reduceLeDiff, reduceEqDiff, reduceAdd, reduceMul, reduceSub, ↓reduceIte, eq_self, y0, y1, y2, y3, y4, v2, ne]))
    exact ⟨by unfold itV; rw [q]; rfl, (((o1.t o2).new _ _).sts (.inr (by omega))).sts (.inr (by omega))⟩
theorem ixGetC (h : H) (b : Nat) (k : List Nat) (R : List Pr) (s : AV) (m : Nat) (hx : IxR N h b R s) (hz : W.Sz 1000 (getL k R)) : PushC P (.enter 40 [.ptr b 0, .str k, W.n64 m] h) (W.Says h (.tuple [.agg (itV k (getL k R) m), .bool (W.atB (getL k R) m)])) := by
  unfold W.n64
  refine pushC_of_codeW (fn := Try.f40) (c := bodyC Try.f40) Try.func40 rfl ?_
  show codeW P 40 21 none _ _ _ _ _
  refine codeW_root ?_
  repeat' (first | ((with_reducible refine st1 ?_); (conv => whnf); (with_reducible refine ⟨?_⟩)) | ((with_reducible refine retW_intro rfl ?_); (conv => arg 2; whnf)) | ((with_reducible first | refine iB ?_ ?_ | refine gWt ?_ ?_ | refine gWf ?_ ?_) <;> intro hb <;> (try simp only [hb])) | (simp only [B, F, reduceLT, reduceLeDiff, reduceEqDiff, reduceAdd, reduceMul, reduceSub, ↓reduceIte, eq_self]))
  obtain ⟨h1, h1e⟩ : ∃ h1, h1 = h.newCells 81 [.str [], .int .u64 (.ofNat 0), .int .u64 (.ofNat 0), .int .u64 (.ofNat 0), .int .u64 (.ofNat 0)] := ⟨_, rfl⟩
  have o1 : Only h h1 [] := by rw [h1e]; exact (Only.refl _ _).new _ _
  have x1 : h1.nx = h.nx + 1 := by rw [h1e]; rfl
  have z0 : cellAt h1 h.nx 0 = some (.str []) := by rw [h1e]; simp only [B, F, reduceLT, reduceLeDiff, reduceEqDiff, reduceAdd, reduceMul, reduceSub, ↓reduceIte, eq_self]
  have z1 : cellAt h1 h.nx 1 = some (.int .u64 (.ofNat 0)) := by rw [h1e]; simp only [B, F, reduceLT, reduceLeDiff, reduceEqDiff, reduceAdd, reduceMul, reduceSub, ↓reduceIte, eq_self]
  have z2 : cellAt h1 h.nx 2 = some (.int .u64 (.ofNat 0)) := by rw [h1e]; simp only [B, F, reduceLT, reduceLeDiff, reduceEqDiff, reduceAdd, reduceMul, reduceSub, ↓reduceIte, eq_self]
  have z3 : cellAt h1 h.nx 3 = some (.int .u64 (.ofNat 0)) := by rw [h1e]; simp only [B, F, reduceLT, reduceLeDiff, reduceEqDiff, reduceAdd, reduceMul, reduceSub, ↓reduceIte, eq_self]
  have z4 : cellAt h1 h.nx 4 = some (.int .u64 (.ofNat 0)) := by rw [h1e]; simp only [B, F, reduceLT, reduceLeDiff, reduceEqDiff, reduceAdd, reduceMul, reduceSub, ↓reduceIte, eq_self]
  have w1 : wrAt h1 h.nx = true := by rw [h1e]; simp only [B, F, reduceLT, reduceLeDiff, reduceEqDiff, reduceAdd, reduceMul, reduceSub, ↓reduceIte, eq_self]
  rw [← h1e]
  have hx1 := hx.keep o1
  refine ((getC (offI N b s) h1 b k R s hx1.ix hx1.ix.gg).call P).mono P ?_
  rintro v h2 ⟨o2, g, rfl, hg, -⟩
  obtain ⟨_, e', hgo, hgc⟩ := hg.val
  cases e'
  repeat' (first | ((with_reducible refine st1 ?_); (conv => whnf); (with_reducible refine ⟨?_⟩)) | ((with_reducible refine retW_intro rfl ?_); (conv => arg 2; whnf)) | ((with_reducible first | refine iB ?_ ?_ | refine gWt ?_ ?_ | refine gWf ?_ ?_) <;> intro hb <;> (try simp only [hb])) | (simp only [B, F, reduceLT, reduceLeDiff, reduceEqDiff, reduceAdd, reduceMul, reduceSub, ↓reduceIte, eq_self, hgo, hgc]))
  refine ((itemC h2 k g (getL k R) m hg.at hz).call P).mono P ?_
  rintro v h3 ⟨rfl, o3⟩
  have o4 := o2.t o3
  have xo4 := o4.1
  have y0 := W.kcell z0 o4 (by omega) (by simp)
  have y1 := W.kcell z1 o4 (by omega) (by simp)
  have y2 := W.kcell z2 o4 (by omega) (by simp)
  have y3 := W.kcell z3 o4 (by omega) (by simp)
  have y4 := W.kcell z4 o4 (by omega) (by simp)
  have v2 := W.kwr w1 o4 (by omega) (by simp)
  cases q : W.atB (getL k R) m with
  | true =>
    have hit : itV k (getL k R) m = [.str k, .int .u64 (.ofNat (W.atK (getL k R) m).rev.1), .int .u64 (.ofNat (W.atK (getL k R) m).rev.2), .int .u64 (.ofNat (W.atK (getL k R) m).made), .int .u64 (.ofNat (W.atK (getL k R) m).nth)] := by unfold itV; rw [if_pos q]
    rw [hit]
    repeat' (first | ((with_reducible refine st1 ?_); (conv => whnf); (with_reducible refine ⟨?_⟩)) | ((with_reducible refine retW_intro rfl ?_); (conv => arg 2; whnf)) | ((with_reducible first | refine iB ?_ ?_ | refine gWt ?_ ?_ | refine gWf ?_ ?_) <;> intro hb <;> (try simp only [hb])) | (simp only [B, F, reduceLT, reduceLeDiff, reduceEqDiff, reduceAdd, reduceMul, reduceSub, ↓reduceIte, eq_self, y0, y1, y2, y3, y4, v2]))
    exact ⟨rfl, (o1.t o4).sts (.inr (Nat.le_refl _))⟩
  | false =>
    have hit : itV k (getL k R) m = [.str [], .int .u64 (.ofNat 0), .int .u64 (.ofNat 0), .int .u64 (.ofNat 0), .int .u64 (.ofNat 0)] := by unfold itV; rw [if_neg (by rw [q]; simp)]
    rw [hit]
    repeat' (first | ((with_reducible refine st1 ?_); (conv => whnf); (with_reducible refine ⟨?_⟩)) | ((with_reducible refine retW_intro rfl ?_); (conv => arg 2; whnf)) | ((with_reducible first | refine iB ?_ ?_ | refine gWt ?_ ?_ | refine gWf ?_ ?_) <;> intro hb <;> (try simp only [hb])) | (simp only [B, F, reduceLT, reduceLeDiff, reduceEqDiff, reduceAdd, reduceMul, reduceSub, ↓reduceIte, eq_self, y0, y1, y2, y3, y4, v2]))
    exact ⟨rfl, (o1.t o4).sts (.inr (Nat.le_refl _))⟩
end
end Go.Proofs.Ytlkngpckibidlaa.X

namespace Go.Proofs.Ytlkngpckibidlaa.X
open Go Go.AX
noncomputable section
set_option maxRecDepth 100000
end
end Go.Proofs.Ytlkngpckibidlaa.X

namespace Go.Proofs.Ytlkngpckibidlaa.X
open Go Go.AX
noncomputable section
set_option maxRecDepth 100000
variable {N : Nat → Prop}
theorem tailS {h : H} {b : Nat} {R : List Pr} {s : AV} (hx : IxR N h b R s) {i : Nat} (hi : i ≤ R.length) :
    ∃ v2, sliceA P 105 s (some (.int .i64 (.ofNat i))) none none = some v2 ∧ v2.one = true ∧ ∀ h', SliceAt h' s R.length (prsC R) → SliceAt h' v2 (R.length - i) (prsC (R.drop i)) := by
  have hrw := hx.rw
  have hex := hx.ex
  obtain ⟨n, hn⟩ : ∃ n, n = R.length := ⟨_, rfl⟩
  obtain ⟨cs, hcs⟩ : ∃ cs, cs = prsC R := ⟨_, rfl⟩
  have hcl : cs.length = n * 2 := by rw [hcs, hn]; exact prsC_leng R
  have hdr : prsC (R.drop i) = cs.drop (i * 2) := by rw [hcs, prsC_drop]
  rw [hdr]
  rw [← hn, ← hcs] at hrw ⊢
  rw [← hn] at hi
  cases hrw with
  | opn => cases hex
  | nil =>
    obtain rfl : i = 0 := by omega
    exact ⟨.nilslice, by kernel_rfl, rfl, fun h' _ => .none⟩
  | exa bl n c ty cs h0 hl hm hr =>
    refine ⟨_, sl_ex_l (P := P) (e := 114) (size := 2) u105 (by kernel_rfl) (by kernel_rfl) bl 0 n c i .i64 hi, rfl, fun h' hs => ?_⟩
    cases hs with
    | cell _ _ _ _ _ hb hc =>
      refine .cell _ _ _ _ _ hb fun j hj => ?_
      rw [List.length_drop] at hj
      rw [if_neg (by omega), Nat.add_assoc, hc _ (by omega), List.getElem?_drop]
def passB (e : List Nat) (last : Bool) (p : Pr) : Bool := last || listLtB p.key e
def fromL (k e : List Nat) (last : Bool) (R : List Pr) : List Pr := (R.drop (atK k R)).takeWhile (passB e last)
theorem tw_step {α : Type} (f : α → Bool) : ∀ (T : List α) (i : Nat) (x : α), i ≤ (T.takeWhile f).length → T[i]? = some x → (f x = true → (T.takeWhile f)[i]? = some x) ∧ (f x = false → (T.takeWhile f).length = i)
  | [], i, x, _, h => by simp at h
  | y :: T, 0, x, _, h => by
    simp at h; subst h
    cases q : f y <;> simp [List.takeWhile_cons, q]
  | y :: T, i + 1, x, hi, h => by
    rw [List.takeWhile_cons] at hi ⊢
    cases q : f y with
    | false => rw [q] at hi; simp at hi
    | true =>
      rw [q] at hi
      have ih := tw_step f T i x (by simpa using hi) (by simpa using h)
      simp only [↓reduceIte, List.getElem?_cons_succ, List.length_cons]
      exact ⟨ih.1, fun e => by rw [ih.2 e]⟩
theorem tw_le {α : Type} (f : α → Bool) : ∀ (T : List α), (T.takeWhile f).length ≤ T.length
  | [] => by simp
  | y :: T => by rw [List.takeWhile_cons]; split <;> simp; exact tw_le f T
structure FrI (h0 : H) (l c1 c2 c3 c4 : Nat) (v2 : AV) (n : Nat) (ys : List Pr) (S : List Nat) (J : Nat → Option Nat → H → Prop) (m : Nat) (ds : List Nat) (tm : T AV) (h : H) (mv : Option Nat) (i : Nat) : Prop where
  ds : ds = []
  nn : m = n - i
  ii : i ≤ ys.length
  t0 : tm.get 0 = some (.yield l)
  t3 : tm.get 3 = some (.ptr c3 0)
  t4 : tm.get 4 = some (.ptr c4 0)
  t21 : tm.get 21 = some v2
  t22 : tm.get 22 = some (.int .i64 (.ofNat n))
  t23 : tm.get 23 = some (.int .i64 (.ofNat i))
  jj : J i mv h
  mm : ∀ b, mv = some b → h0.nx ≤ b
  oo : Only h0 h S
theorem fromRun (h0 : H) (l b c1 c2 c3 c4 : Nat) (k e : List Nat) (last : Bool) (R : List Pr) (s : AV) (S : List Nat) (J : Nat → Option Nat → H → Prop) (hx : IxR N h0 b R s)
    (q1 : cellAt h0 c1 0 = some (.ptr b 0)) (q2 : cellAt h0 c2 0 = some (.str k)) (q3 : cellAt h0 c3 0 = some (.bool last)) (q4 : cellAt h0 c4 0 = some (.str e)) (hlt : c1 < h0.nx ∧ c2 < h0.nx ∧ c3 < h0.nx ∧ c4 < h0.nx)
    (hS : ∀ c, c ∈ S → c < h0.nx ∧ c ≠ c3 ∧ c ≠ c4 ∧ blkOf s ≠ some c)
    (hJs : ∀ i mv h h', J i mv h → Only h h' [] → J i mv h')
    (hJr : ∀ i mv h p, J i mv h → Only h0 h S → (fromL k e last R)[i]? = some p → PushC P (.round l [.str p.key, .agg [p.v]] h) fun v h' => v = .bool true ∧ ∃ mv', J (i + 1) mv' h' ∧ W.OnlyM h h' S mv ∧ (mv' = mv ∨ ∃ b, mv' = some b ∧ h.nx ≤ b))
    (h0J : J 0 none h0) : PushC P (.enter 74 [.yield l, .ptr c1 0, .ptr c2 0, .ptr c3 0, .ptr c4 0] h0) fun _ h' => ∃ mv, J (fromL k e last R).length mv h' ∧ Only h0 h' S ∧ ∀ b, mv = some b → h0.nx ≤ b := by
  have c0 := hx.ix.c0
  have hso := W.SliceAt.one hx.ix.sl
  refine pushC_of_codeW (fn := Try.f74) (c := bodyC Try.f74) Try.func74 rfl ?_
  show codeW P 74 45 none _ _ _ _ _
  refine codeW_root ?_
  repeat' (first | ((with_reducible refine st1 ?_); (conv => whnf); (with_reducible refine ⟨?_⟩)) | ((with_reducible refine retW_intro rfl ?_); (conv => arg 2; whnf)) | ((with_reducible first | refine iB ?_ ?_ | refine gWt ?_ ?_ | refine gWf ?_ ?_) <;> intro hb <;> (try simp only [hb])) | (simp only [B, F, reduceLT, reduceLeDiff, reduceEqDiff, reduceAdd, reduceMul, reduceSub, ↓reduceIte, eq_self, q1, q2]))
  refine ((findC h0 b k R s hx.ix).call P).mono P ?_
  rintro v h2 ⟨rfl, o2⟩
  have hx2 := hx.keep o2
  have c02 := hx2.ix.c0
  have q12 := W.kcell q1 o2 hlt.1 (by simp)
  obtain ⟨v2, e2, hv2, hs2⟩ := tailS hx2 (atK_le k R)
  have hlen := (hs2 h2 hx2.ix.sl).len (P := P) u105
  have hz := hx.ix.zz
  obtain ⟨T, hT⟩ : ∃ T, T = R.drop (atK k R) := ⟨_, rfl⟩
  have hTl : T.length = R.length - atK k R := by rw [hT, List.length_drop]
  have hys : fromL k e last R = T.takeWhile (passB e last) := by rw [hT]; rfl
  rw [← hTl, ← hT] at hs2
  rw [← hTl] at hlen
  rw [hys] at hJr ⊢
  repeat' (first | ((with_reducible refine st1 ?_); (conv => whnf); (with_reducible refine ⟨?_⟩)) | ((with_reducible refine retW_intro rfl ?_); (conv => arg 2; whnf)) | ((with_reducible first | refine iB ?_ ?_ | refine gWt ?_ ?_ | refine gWf ?_ ?_) <;> intro hb <;> (try simp only [hb])) | (simp only [B, F, reduceLT, reduceLeDiff, reduceEqDiff, reduceAdd, reduceMul, reduceSub, ↓reduceIte, eq_self, q12, c02, ex_sl_l, e2, hv2, hso, hlen]))
  refine st_loop (fun n ds tm h => ∃ mv i, FrI h0 l c1 c2 c3 c4 v2 T.length (T.takeWhile (passB e last)) S J n ds tm h mv i) T.length rfl ⟨none, 0, rfl, rfl, Nat.zero_le _, by simp only [B, F, reduceLT, reduceLeDiff, reduceEqDiff, reduceAdd, reduceMul, reduceSub, ↓reduceIte, eq_self], by simp only [B, F, reduceLT, reduceLeDiff, reduceEqDiff, reduceAdd, reduceMul, reduceSub, ↓reduceIte, eq_self], by simp only [B, F, reduceLT, reduceLeDiff, reduceEqDiff, reduceAdd, reduceMul, reduceSub, ↓reduceIte, eq_self], by simp only [B, F, reduceLT, reduceLeDiff, reduceEqDiff, reduceAdd, reduceMul, reduceSub, ↓reduceIte, eq_self], by simp only [B, F, reduceLT, reduceLeDiff, reduceEqDiff, reduceAdd, reduceMul, reduceSub, ↓reduceIte, eq_self], by simp only [B, F, reduceLT, reduceLeDiff, reduceEqDiff, reduceAdd, reduceMul, reduceSub, ↓reduceIte, eq_self], hJs _ _ _ _ h0J o2, (fun _ q => by cases q), Only.wide o2⟩ (fun n ds tm h hI => ?_)
  obtain ⟨mv, i, rfl, rfl, ii, t0, t3, t4, t21, t22, t23, jj, mm, oo⟩ := hI
  have hle := tw_le (passB e last) T
  by_cases hi : i < T.length
  · have d1 : decide (i < T.length) = true := decide_eq_true hi
    have lt1 : (i < T.length) = True := by simp [hi]
    obtain ⟨p, hp⟩ : ∃ p, T[i]? = some p := ⟨_, List.getElem?_eq_getElem hi⟩
    have hss := hs2 h (hx.ix.sl.only oo (fun c q q' => (hS c q').2.2.2 q))
    obtain ⟨bl, o, cap, rfl, hb, -⟩ := hss.place (by omega)
    obtain ⟨p0, p1⟩ := prC_at hss hp
    have hpm : p ∈ R := by rw [hT] at hp; exact List.mem_of_mem_drop (List.mem_of_getElem? hp)
    have hpo := hx.ix.one p hpm
    have q3' : cellAt h c3 0 = some (.bool last) := W.kcell q3 oo hlt.2.2.1 (fun q => (hS c3 q).2.1 rfl)
    have q4' : cellAt h c4 0 = some (.str e) := W.kcell q4 oo hlt.2.2.2 (fun q => (hS c4 q).2.2.1 rfl)
    have tw := tw_step (passB e last) T i p ii hp
    have n3 : (c3 = h.nx) = False := by have := oo.1; simp; omega
    have n4 : (c4 = h.nx) = False := by have := oo.1; simp; omega
    cases last with
    | true =>
      have hps : passB e true p = true := rfl
      repeat' (first | ((with_reducible refine st1 ?_); (conv => whnf); (with_reducible refine ⟨?_⟩)) | ((with_reducible refine retW_intro rfl ?_); (conv => arg 2; whnf)) | ((with_reducible first | refine iB ?_ ?_ | refine gWt ?_ ?_ | refine gWf ?_ ?_) <;> intro hb <;> (try simp only [hb])) | (simp only [B, F, reduceLT, reduceLeDiff, reduceEqDiff, reduceAdd, reduceMul, reduceSub, ↓reduceIte, eq_self, t0, t3, t4, t21, t22, t23, d1, lt1, p0, p1, q3', q4', hpo, n3, n4, b_geqS, Bool.not_true, Bool.not_false]))
      have o3 : Only h ((h.newCells 114 [.str [], .nilslice]).sts h.nx 0 [.str p.key, p.v]) [] := ((Only.refl _ _).new _ _).sts (.inr (Nat.le_refl _))
      refine ((hJr i mv _ p (hJs _ _ _ _ jj o3) (oo.trans o3 (fun _ h => h) (fun _ h => by cases h)) (tw.1 hps)).call P).mono P ?_
      rintro v h2 ⟨rfl, mv2, jj2, oo4, hm2⟩
      have ho : W.OnlyM h h2 S mv := ⟨Nat.le_trans o3.1 oo4.1, fun b hb hs hm => by rw [oo4.2 b (Nat.lt_of_lt_of_le hb o3.1) hs hm, o3.2 b hb (by simp)]⟩
      have mm2 : ∀ b, mv2 = some b → h0.nx ≤ b := by
        have x2 := oo.1
        have x3 := o3.1
        rcases hm2 with rfl | ⟨c, rfl, hc⟩
        · exact mm
        · intro b q; cases q; omega
      have w2 : wrapF .i64 (Int.ofNat i + Int.ofNat 1) = Int.ofNat (i + 1) := i64_add (by omega)
      have hlt2 := (List.getElem?_eq_some_iff.1 (tw.1 hps)).1
      repeat' (first | ((with_reducible refine st1 ?_); (conv => whnf); (with_reducible refine ⟨?_⟩)) | ((with_reducible refine retW_intro rfl ?_); (conv => arg 2; whnf)) | ((with_reducible first | refine iB ?_ ?_ | refine gWt ?_ ?_ | refine gWf ?_ ?_) <;> intro hb <;> (try simp only [hb])) | (simp only [B, F, reduceLT, reduceLeDiff, reduceEqDiff, reduceAdd, reduceMul, reduceSub, ↓reduceIte, eq_self, t23, w2, Bool.not_true, Bool.not_false]))
      exact ⟨T.length - (i + 1), by omega, mv2, i + 1, rfl, rfl, by omega, by simp only [B, F, reduceLT, reduceLeDiff, reduceEqDiff, reduceAdd, reduceMul, reduceSub, ↓reduceIte, eq_self, t0], by simp only [B, F, reduceLT, reduceLeDiff, reduceEqDiff, reduceAdd, reduceMul, reduceSub, ↓reduceIte, eq_self, t3], by simp only [B, F, reduceLT, reduceLeDiff, reduceEqDiff, reduceAdd, reduceMul, reduceSub, ↓reduceIte, eq_self, t4], by simp only [B, F, reduceLT, reduceLeDiff, reduceEqDiff, reduceAdd, reduceMul, reduceSub, ↓reduceIte, eq_self, t21], by simp only [B, F, reduceLT, reduceLeDiff, reduceEqDiff, reduceAdd, reduceMul, reduceSub, ↓reduceIte, eq_self, t22], by simp only [B, F, reduceLT, reduceLeDiff, reduceEqDiff, reduceAdd, reduceMul, reduceSub, ↓reduceIte, eq_self], jj2, mm2, W.OnlyM.from oo ho mm⟩
    | false =>
      cases hlk : listLtB p.key e with
      | true =>
        have hps : passB e false p = true := by unfold passB; rw [hlk]; rfl
        repeat' (first | ((with_reducible refine st1 ?_); (conv => whnf); (with_reducible refine ⟨?_⟩)) | ((with_reducible refine retW_intro rfl ?_); (conv => arg 2; whnf)) | ((with_reducible first | refine iB ?_ ?_ | refine gWt ?_ ?_ | refine gWf ?_ ?_) <;> intro hb <;> (try simp only [hb])) | (simp only [B, F, reduceLT, reduceLeDiff, reduceEqDiff, reduceAdd, reduceMul, reduceSub, ↓reduceIte, eq_self, t0, t3, t4, t21, t22, t23, d1, lt1, p0, p1, q3', q4', hpo, n3, n4, b_geqS, hlk, Bool.not_true, Bool.not_false]))
        have o3 : Only h ((h.newCells 114 [.str [], .nilslice]).sts h.nx 0 [.str p.key, p.v]) [] := ((Only.refl _ _).new _ _).sts (.inr (Nat.le_refl _))
        refine ((hJr i mv _ p (hJs _ _ _ _ jj o3) (oo.trans o3 (fun _ h => h) (fun _ h => by cases h)) (tw.1 hps)).call P).mono P ?_
        rintro v h2 ⟨rfl, mv2, jj2, oo4, hm2⟩
        have ho : W.OnlyM h h2 S mv := ⟨Nat.le_trans o3.1 oo4.1, fun b hb hs hm => by rw [oo4.2 b (Nat.lt_of_lt_of_le hb o3.1) hs hm, o3.2 b hb (by simp)]⟩
        have mm2 : ∀ b, mv2 = some b → h0.nx ≤ b := by
          have x2 := oo.1
          have x3 := o3.1
          rcases hm2 with rfl | ⟨c, rfl, hc⟩
          · exact mm
          · intro b q; cases q; omega
        have w2 : wrapF .i64 (Int.ofNat i + Int.ofNat 1) = Int.ofNat (i + 1) := i64_add (by omega)
        have hlt2 := (List.getElem?_eq_some_iff.1 (tw.1 hps)).1
        repeat' (first | ((with_reducible refine st1 ?_); (conv => whnf); (with_reducible refine ⟨?_⟩)) | ((with_reducible refine retW_intro rfl ?_); (conv => arg 2; whnf)) | ((with_reducible first | refine iB ?_ ?_ | refine gWt ?_ ?_ | refine gWf ?_ ?_) <;> intro hb <;> (try simp only [hb])) | (simp only [B, F, reduceLT, reduceLeDiff, reduceEqDiff, reduceAdd, reduceMul, reduceSub, ↓reduceIte, eq_self, t23, w2, Bool.not_true, Bool.not_false]))
        exact ⟨T.length - (i + 1), by omega, mv2, i + 1, rfl, rfl, by omega, by simp only [B, F, reduceLT, reduceLeDiff, reduceEqDiff, reduceAdd, reduceMul, reduceSub, ↓reduceIte, eq_self, t0], by simp only [B, F, reduceLT, reduceLeDiff, reduceEqDiff, reduceAdd, reduceMul, reduceSub, ↓reduceIte, eq_self, t3], by simp only [B, F, reduceLT, reduceLeDiff, reduceEqDiff, reduceAdd, reduceMul, reduceSub, ↓reduceIte, eq_self, t4], by simp only [B, F, reduceLT, reduceLeDiff, reduceEqDiff, reduceAdd, reduceMul, reduceSub, ↓reduceIte, eq_self, t21], by simp only [B, F, reduceLT, reduceLeDiff, reduceEqDiff, reduceAdd, reduceMul, reduceSub, ↓reduceIte, eq_self, t22], by simp only [B, F, reduceLT, reduceLeDiff, reduceEqDiff, reduceAdd, reduceMul, reduceSub, ↓reduceIte, eq_self], jj2, mm2, W.OnlyM.from oo ho mm⟩
      | false =>
        have hps : passB e false p = false := by unfold passB; rw [hlk]; rfl
        have hend := tw.2 hps
        have o3 : Only h ((h.newCells 114 [.str [], .nilslice]).sts h.nx 0 [.str p.key, p.v]) [] := ((Only.refl _ _).new _ _).sts (.inr (Nat.le_refl _))
        repeat' (first | ((with_reducible refine st1 ?_); (conv => whnf); (with_reducible refine ⟨?_⟩)) | ((with_reducible refine retW_intro rfl ?_); (conv => arg 2; whnf)) | ((with_reducible first | refine iB ?_ ?_ | refine gWt ?_ ?_ | refine gWf ?_ ?_) <;> intro hb <;> (try simp only [hb])) | (simp only [B, F, reduceLT, reduceLeDiff, reduceEqDiff, reduceAdd, reduceMul, reduceSub, ↓reduceIte, eq_self, t0, t3, t4, t21, t22, t23, d1, lt1, p0, p1, q3', q4', hpo, n3, n4, b_geqS, hlk, Bool.not_true, Bool.not_false]))
        rw [hend]
        exact ⟨mv, hJs _ _ _ _ jj o3, oo.trans o3 (fun _ h => h) (fun _ h => by cases h), mm⟩
  · have d1 : decide (i < T.length) = false := decide_eq_false hi
    have hend : (T.takeWhile (passB e last)).length = i := by omega
    repeat' (first | ((with_reducible refine st1 ?_); (conv => whnf); (with_reducible refine ⟨?_⟩)) | ((with_reducible refine retW_intro rfl ?_); (conv => arg 2; whnf)) | ((with_reducible first | refine iB ?_ ?_ | refine gWt ?_ ?_ | refine gWf ?_ ?_) <;> intro hb <;> (try simp only [hb])) | (simp only [B, F, reduceLT, reduceLeDiff, reduceEqDiff, reduceAdd, reduceMul, reduceSub, ↓reduceIte, eq_self, t22, t23, d1]))
    rw [retK_norm, hend]
    exact ⟨_, rfl, _, rfl, mv, jj, oo, mm⟩
def fromV (n : Nat) : AV := .func 74 [] [.ptr n 0, .ptr (n + 1) 0, .ptr (n + 3) 0, .ptr (n + 2) 0]
theorem fromC (h : H) (b : Nat) (k e : List Nat) (last : Bool) : PushC P (.enter 56 [.ptr b 0, .str k, .str e, .bool last] h) fun v h' => v = fromV h.nx ∧ Only h h' [] ∧ h'.nx = h.nx + 4 ∧
    cellAt h' h.nx 0 = some (.ptr b 0) ∧ cellAt h' (h.nx + 1) 0 = some (.str k) ∧ cellAt h' (h.nx + 3) 0 = some (.bool last) ∧ cellAt h' (h.nx + 2) 0 = some (.str e) := by
  refine pushC_of_codeW (fn := Try.f56) (c := bodyC Try.f56) Try.func56 rfl ?_
  show codeW P 56 10 none _ _ _ _ _
  refine codeW_root ?_
  repeat' (first | ((with_reducible refine st1 ?_); (conv => whnf); (with_reducible refine ⟨?_⟩)) | ((with_reducible refine retW_intro rfl ?_); (conv => arg 2; whnf)) | ((with_reducible first | refine iB ?_ ?_ | refine gWt ?_ ?_ | refine gWf ?_ ?_) <;> intro hb <;> (try simp only [hb])) | (simp only [B, F, reduceLT, reduceLeDiff, reduceEqDiff, reduceAdd, reduceMul, reduceSub, ↓reduceIte, eq_self]))
  have hO : Only h ((((h.newCells 127 [.ptr b 0]).newCells 9 [.str k]).newCells 9 [.str e]).newCells 4 [.bool last]) [] := ((((Only.refl _ _).new _ _).new _ _).new _ _).new _ _
  exact ⟨rfl, hO⟩
theorem b_addS {h : H} {t : TypeId} {x y : Operand} (a b : List Nat) (hs : a.length + b.length ≤ 1099511627776) : binR P h .add t x y (.str a) (.str b) = .val (.str (a ++ b)) h := by
  have e : Nat.ble (lenL a + lenL b) 1099511627776 = true := by rw [lenL_eq, lenL_eq]; exact ble_t hs
  simp only [binR, apartA, binA, strB, optV, e]
def endL (k e : List Nat) : List Nat := if e = [] then k ++ [0] else e
def lastB (e : List Nat) : Bool := decide (e = [0])
end
end Go.Proofs.Ytlkngpckibidlaa.X

namespace Go.Proofs.Ytlkngpckibidlaa.X
open Go Go.AX
noncomputable section
set_option maxRecDepth 100000
variable {N : Nat → Prop}
structure It where
  key : List Nat
  mod : W.Rv
  made : Nat
  nth : Nat
deriving DecidableEq
def itC (x : It) : List AV := [.str x.key, .int .u64 (.ofNat x.mod.1), .int .u64 (.ofNat x.mod.2), .int .u64 (.ofNat x.made), .int .u64 (.ofNat x.nth)]
def itOf (m : Nat) (p : Pr) : It := ⟨p.key, (W.atK p.L m).rev, (W.atK p.L m).made, (W.atK p.L m).nth⟩
def itsL (m : Nat) (l : List Pr) : List It := (l.filter fun p => W.atB p.L m).map (itOf m)
def itsC (l : List It) : List AV := l.flatMap itC
theorem its_take {m : Nat} {l : List Pr} {k : Nat} {p : Pr} (hp : l[k]? = some p) : itsL m (l.take (k + 1)) = if W.atB p.L m then itsL m (l.take k) ++ [itOf m p] else itsL m (l.take k) := by
  unfold itsL
  rw [List.take_add_one, hp, List.filter_append, List.map_append]
  by_cases q : W.atB p.L m = true
  · simp [q]
  · simp [q]
theorem itsC_snoc (l : List It) (x : It) : itsC l ++ itC x = itsC (l ++ [x]) := by simp [itsC]
theorem its_len (m : Nat) (l : List Pr) : (itsL m l).length ≤ l.length := by unfold itsL; rw [List.length_map]; exact List.length_filter_le _ _
structure RJ (h0 : H) (ys : List Pr) (m : Nat) (r : ALoop) (k : Nat) (mv : Option Nat) (h : H) : Prop where
  nx : h0.nx + 8 ≤ h.nx
  old : ∀ b, b < h0.nx → h.t.get b = h0.t.get b
  hl : h.t.get (h0.nx + 7) = some (.loop r)
  hd : h.t.get (h0.nx + 6) = some (.deferred (some []))
  c0 : cellAt h h0.nx 0 = some (.int .u64 (.ofNat m))
  w1 : wrAt h (h0.nx + 1) = true
  sv : ∃ sv, cellAt h (h0.nx + 1) 0 = some sv ∧ Grows 5 (h0.nx + 8) h sv (itsL m (ys.take k)).length (itsC (itsL m (ys.take k))) ∧ blkOf sv = mv
  tm : r.tm.get 7 = some (.ptr h0.nx 0) ∧ r.tm.get 10 = some (.ptr (h0.nx + 1) 0)
theorem RJ.keep {h0 : H} {ys : List Pr} {m : Nat} {r : ALoop} {k : Nat} {mv : Option Nat} {h h' : H} (hj : RJ h0 ys m r k mv h) (ho : Only h h' []) : RJ h0 ys m r k mv h' := by
  obtain ⟨nx, old, hl, hd, c0, w1, ⟨sv, sc, sg, sb⟩, tm⟩ := hj
  have e := fun b (hb : b < h.nx) => ho.2 b hb (by simp)
  have ec := fun b (hb : b < h.nx) => cellAt_of_get (e b hb)
  have ew := fun b (hb : b < h.nx) => wrAt_of_get (e b hb)
  exact ⟨Nat.le_trans nx ho.1, fun b hb => by rw [e b (by omega), old b hb], by rw [e _ (by omega)]; exact hl, by rw [e _ (by omega)]; exact hd, by rw [ec _ (by omega)]; exact c0, by rw [ew _ (by omega)]; exact w1,
    ⟨sv, by rw [ec _ (by omega)]; exact sc, sg.of_get ho.1 (fun b hb => e b (sg.base hb).2), sb⟩, tm⟩
theorem RJ.o {h0 : H} {ys : List Pr} {m : Nat} {r : ALoop} {k : Nat} {mv : Option Nat} {h : H} (hj : RJ h0 ys m r k mv h) : Only h0 h [] := ⟨by have := hj.nx; omega, fun b hb _ => hj.old b hb⟩
def bodyR : List Nat := [0, 1, 0, 1, 1, 1, 1, 1]
noncomputable abbrev rangeR (h0 : H) (tm : T AV) : ALoop := loopR 34 45 tm [30, 31] (codeI (bodyC Try.f34) (0 :: bodyR)) (codeI (bodyC Try.f34) (1 :: bodyR)) (h0.nx + 6) .ready
theorem rangeRound (h0 : H) (ys : List Pr) (m : Nat) (tm : T AV) (hlen : ys.length ≤ 100000) (k : Nat) (mv : Option Nat) (h : H) (p : Pr) (hj : RJ h0 ys m (rangeR h0 tm) k mv h) (hp : ys[k]? = some p) (hg : W.GensAt h0 (.agg [p.v]) p.L) (hz : W.Sz 1000 p.L) :
    PushC P (.round (h0.nx + 7) [.str p.key, .agg [p.v]] h) fun v h' => v = .bool true ∧ ∃ mv', RJ h0 ys m (rangeR h0 tm) (k + 1) mv' h' ∧ W.OnlyM h h' [h0.nx + 1, h0.nx + 7] mv ∧ (mv' = mv ∨ ∃ b, mv' = some b ∧ h.nx ≤ b) := by
  have hjo := hj.o
  obtain ⟨nx, old, hl, hd, c0, w1, ⟨sv, sc, sg, sb⟩, q7, q10⟩ := hj
  obtain ⟨_, e', hgo, hgc⟩ := hg.val
  cases e'
  refine round_walk (tm := (tm.set 30 (some (.str p.key))).set 31 (some (.agg [p.v]))) hl rfl ?_
  show codeW P 34 45 (some (h0.nx + 7)) (codeI (bodyC Try.f34) (0 :: bodyR)) _ _ _ _
  unfold bodyR
  have q7 : tm.get 7 = some (.ptr h0.nx 0) := q7
  have q10 : tm.get 10 = some (.ptr (h0.nx + 1) 0) := q10
  repeat' (first | ((with_reducible refine st1 ?_); (conv => whnf); (with_reducible refine ⟨?_⟩)) | ((with_reducible refine retW_intro rfl ?_); (conv => arg 2; whnf)) | ((with_reducible first | refine iB ?_ ?_ | refine gWt ?_ ?_ | refine gWf ?_ ?_) <;> intro hb <;> (try simp only [hb])) | (simp only [B, F, reduceLT, reduceLeDiff, reduceEqDiff, reduceAdd, reduceMul, reduceSub, ↓reduceIte, eq_self, hgo, hgc]))
  refine asg_norm (by rw [get_sts _ _ _ _ (by omega), get_new _ _ _ (by omega)]; exact hl) rfl ?_
  show codeW P 34 45 (some (h0.nx + 7)) (codeI (bodyC Try.f34) [1, 0, 1, 0, 1, 1, 1, 1, 1]) _ _ _ _
  obtain ⟨h1, e1⟩ : ∃ h1, h1 = ((h.newCells 26 [.nilslice]).sts h.nx 0 [p.v]).obj (h0.nx + 7) (.loop { rangeR h0 tm with state := .busy }) := ⟨_, rfl⟩
  have ho1 : Only h h1 [h0.nx + 1, h0.nx + 7] := by rw [e1]; exact (((Only.refl _ _).new _ _).sts (.inr (Nat.le_refl _))).obj (.inl (by simp)) _
  have hl1 : h1.t.get (h0.nx + 7) = some (.loop { rangeR h0 tm with state := .busy }) := by rw [e1]; exact get_obj_self _ _
  have hx1 : h1.nx = h.nx + 1 := by rw [e1, nx_obj, nx_sts, nx_new]
  have hget1 : ∀ b, b < h.nx → b ≠ h0.nx + 7 → h1.t.get b = h.t.get b := fun b hb hne => by rw [e1, get_obj_ne hne, get_sts _ _ _ _ (by omega), get_new _ _ _ (by omega)]
  have d0 : cellAt h1 h.nx 0 = some p.v := by rw [e1, cellAt_obj (by omega), cellAt_sts (by rw [wrAt_new, if_pos rfl]), if_pos ⟨rfl, Nat.le_refl _, by simp⟩]; rfl
  have hc0 : cellAt h1 h0.nx 0 = some (.int .u64 (.ofNat m)) := by rw [cellAt_of_get (hget1 _ (by omega) (by omega))]; exact c0
  have hc1 : cellAt h1 (h0.nx + 1) 0 = some sv := by rw [cellAt_of_get (hget1 _ (by omega) (by omega))]; exact sc
  have hgh : W.GensAt h1 (.agg [p.v]) p.L := hg.keep ⟨by have := hjo.1; omega, fun b hb _ => by rw [hget1 b (by omega) (by omega)]; exact old b hb⟩
  rw [← e1]
  repeat' (first | ((with_reducible refine st1 ?_); (conv => whnf); (with_reducible refine ⟨?_⟩)) | ((with_reducible refine retW_intro rfl ?_); (conv => arg 2; whnf)) | ((with_reducible first | refine iB ?_ ?_ | refine gWt ?_ ?_ | refine gWf ?_ ?_) <;> intro hb <;> (try simp only [hb])) | (simp only [B, F, reduceLT, reduceLeDiff, reduceEqDiff, reduceAdd, reduceMul, reduceSub, ↓reduceIte, eq_self, q7, q10, hc0, hc1, d0, hgo, hgc]))
  refine ((itemC h1 p.key p.v p.L m hgh hz).call P).mono P ?_
  rintro v h2 ⟨rfl, ho2⟩
  have hx2 := ho2.1
  have hget2 : ∀ b, b < h.nx → b ≠ h0.nx + 7 → h2.t.get b = h.t.get b := fun b hb hne => by rw [ho2.2 b (by omega) (by simp), hget1 b hb hne]
  have hl2 : h2.t.get (h0.nx + 7) = some (.loop { rangeR h0 tm with state := .busy }) := by rw [ho2.2 _ (by omega) (by simp)]; exact hl1
  have hc2 : cellAt h2 (h0.nx + 1) 0 = some sv := by rw [cellAt_of_get (hget2 _ (by omega) (by omega))]; exact sc
  have lt := its_take (m := m) hp
  have hn1 : (h0.nx + 1 = h2.nx) = False := by simp; omega
  cases hat : W.atB p.L m with
  | true =>
    have hit : itV p.key p.L m = itC (itOf m p) := by unfold itV; rw [if_pos hat]; rfl
    rw [hit]
    obtain ⟨I, hI⟩ : ∃ I, I = itC (itOf m p) := ⟨_, rfl⟩
    obtain ⟨h3, e3⟩ : ∃ h3, h3 = (((h2.newCells 81 [.str [], .int .u64 (.ofNat 0), .int .u64 (.ofNat 0), .int .u64 (.ofNat 0), .int .u64 (.ofNat 0)]).sts h2.nx 0 I).newCells 81 I) := ⟨_, rfl⟩
    have hx3 : h3.nx = h2.nx + 2 := by rw [e3, nx_new, nx_sts, nx_new]
    have hget3 : ∀ b, b < h2.nx → h3.t.get b = h2.t.get b := fun b hb => by rw [e3, get_new _ _ _ (by rw [nx_sts, nx_new]; omega), get_sts _ _ _ _ (by omega), get_new _ _ _ (by omega)]
    have hIl : I.length = 5 := by rw [hI]; rfl
    have hI' := hI
    unfold itC at hI'
    unfold itC
    repeat' (first | ((with_reducible refine st1 ?_); (conv => whnf); (with_reducible refine ⟨?_⟩)) | ((with_reducible refine retW_intro rfl ?_); (conv => arg 2; whnf)) | ((with_reducible first | refine iB ?_ ?_ | refine gWt ?_ ?_ | refine gWf ?_ ?_) <;> intro hb <;> (try simp only [hb])) | (simp only [B, F, reduceLT, reduceLeDiff, reduceEqDiff, reduceAdd, reduceMul, reduceSub, ↓reduceIte, eq_self, q10, hc2, hn1]))
    rw [← hI', ← e3]
    rw [hat, if_pos rfl] at lt
    have hmv : ∀ b, b < h0.nx + 8 → mv ≠ some b := fun b hb qq => by have := (sg.base (sb.trans qq)).1; omega
    have hks : (itsL m (ys.take k)).length ≤ 100000 := by
      have h1 := its_len m (ys.take k)
      have h2 : (ys.take k).length ≤ ys.length := by rw [List.length_take]; exact Nat.min_le_right _ _
      omega
    refine exW_grows (base := h0.nx + 8) (h := h3) (sg.of_get (by omega) (fun b hb => by have := sg.base hb; rw [hget3 b (by omega), hget2 b (by omega) (by omega)])) (by omega) (by omega) (by omega) (by rw [hIl]) (by omega) ?_
    intro v' h4 hg' hnx hold hblk
    rw [hI, itsC_snoc] at hg'
    have q : ∀ b, b < h.nx → b ≠ h0.nx + 7 → mv ≠ some b → h4.t.get b = h.t.get b := fun b hb hne hm => by
      rw [hold b (by omega) (by rw [sb]; exact hm), hget3 b (by omega), hget2 b hb hne]
    have hw4 : wrAt h4 (h0.nx + 1) = true := by rw [wrAt_of_get (q _ (by omega) (by omega) (hmv _ (by omega)))]; exact w1
    have hc4 : cellAt h4 (h0.nx + 1) 0 = some sv := by rw [cellAt_of_get (q _ (by omega) (by omega) (hmv _ (by omega)))]; exact sc
    have hl4 : h4.t.get (h0.nx + 7) = some (.loop { rangeR h0 tm with state := .busy }) := by rw [hold _ (by omega) (by rw [sb]; exact hmv _ (by omega)), hget3 _ (by omega)]; exact hl2
    have hcv := hg'.cells
    have hov := hg'.one
    repeat' (first | ((with_reducible refine st1 ?_); (conv => whnf); (with_reducible refine ⟨?_⟩)) | ((with_reducible refine retW_intro rfl ?_); (conv => arg 2; whnf)) | ((with_reducible first | refine iB ?_ ?_ | refine gWt ?_ ?_ | refine gWf ?_ ?_) <;> intro hb <;> (try simp only [hb])) | (simp only [B, F, reduceLT, reduceLeDiff, reduceEqDiff, reduceAdd, reduceMul, reduceSub, ↓reduceIte, eq_self, q10, put_sts, hw4, hc4, hcv, hov]))
    have g5 : ∀ b, b ≠ h0.nx + 1 → b ≠ h0.nx + 7 → ((h4.sts (h0.nx + 1) 0 [v']).obj (h0.nx + 7) (.loop (rangeR h0 tm))).t.get b = h4.t.get b := fun b n1 n2 => by rw [get_obj_ne n2, get_sts _ _ _ _ n1]
    refine roundEnd_norm (by rw [get_sts _ _ _ _ (by omega)]; exact hl4) rfl rfl ⟨rfl, blkOf v', ?_, ⟨by rw [nx_obj, nx_sts]; omega, fun b hb hs hm => ?_⟩, .inr ⟨_, hblk, by omega⟩⟩
    · refine ⟨by rw [nx_obj, nx_sts]; omega, fun b hb => by rw [g5 b (by omega) (by omega), q b (by omega) (by omega) (hmv _ (by omega))]; exact old b hb, get_obj_self _ _,
        by rw [g5 _ (by omega) (by omega), q _ (by omega) (by omega) (hmv _ (by omega))]; exact hd,
        by rw [cellAt_of_get (g5 _ (by omega) (by omega)), cellAt_of_get (q _ (by omega) (by omega) (hmv _ (by omega)))]; exact c0,
        by rw [wrAt_obj (by omega), wrAt_sts]; exact hw4, ⟨v', ?_, ?_, rfl⟩, q7, q10⟩
      · rw [cellAt_obj (by omega), cellAt_sts hw4, if_pos ⟨rfl, Nat.le_refl _, by simp⟩]; rfl
      · rw [lt]
        rw [show (itsL m (ys.take k) ++ [itOf m p]).length = (itsL m (ys.take k)).length + 1 by simp]
        refine hg'.of_get (by rw [nx_obj, nx_sts]; exact Nat.le_refl _) (fun b hb => g5 b ?_ ?_)
        · rw [hblk] at hb; cases hb; omega
        · rw [hblk] at hb; cases hb; omega
    · simp only [List.mem_cons, List.mem_nil_iff, or_false, not_or] at hs
      rw [g5 b hs.1 hs.2, q b hb hs.2 hm]
  | false =>
    have hit : itV p.key p.L m = [.str [], .int .u64 (.ofNat 0), .int .u64 (.ofNat 0), .int .u64 (.ofNat 0), .int .u64 (.ofNat 0)] := by unfold itV; rw [if_neg (by rw [hat]; simp)]
    rw [hit]
    obtain ⟨h3, e3⟩ : ∃ h3, h3 = (h2.newCells 81 [.str [], .int .u64 (.ofNat 0), .int .u64 (.ofNat 0), .int .u64 (.ofNat 0), .int .u64 (.ofNat 0)]).sts h2.nx 0 [.str [], .int .u64 (.ofNat 0), .int .u64 (.ofNat 0), .int .u64 (.ofNat 0), .int .u64 (.ofNat 0)] := ⟨_, rfl⟩
    have hx3 : h3.nx = h2.nx + 1 := by rw [e3, nx_sts, nx_new]
    have hget3 : ∀ b, b < h2.nx → h3.t.get b = h2.t.get b := fun b hb => by rw [e3, get_sts _ _ _ _ (by omega), get_new _ _ _ (by omega)]
    repeat' (first | ((with_reducible refine st1 ?_); (conv => whnf); (with_reducible refine ⟨?_⟩)) | ((with_reducible refine retW_intro rfl ?_); (conv => arg 2; whnf)) | ((with_reducible first | refine iB ?_ ?_ | refine gWt ?_ ?_ | refine gWf ?_ ?_) <;> intro hb <;> (try simp only [hb])) | (simp only [B, F, reduceLT, reduceLeDiff, reduceEqDiff, reduceAdd, reduceMul, reduceSub, ↓reduceIte, eq_self, q10, hc2, hn1]))
    rw [← e3]
    rw [hat, if_neg (by simp)] at lt
    have hl3 : h3.t.get (h0.nx + 7) = some (.loop { rangeR h0 tm with state := .busy }) := by rw [hget3 _ (by omega)]; exact hl2
    have g5 : ∀ b, b ≠ h0.nx + 7 → (h3.obj (h0.nx + 7) (.loop (rangeR h0 tm))).t.get b = h3.t.get b := fun b n2 => get_obj_ne n2 _
    have q : ∀ b, b < h.nx → b ≠ h0.nx + 7 → (h3.obj (h0.nx + 7) (.loop (rangeR h0 tm))).t.get b = h.t.get b := fun b hb hne => by rw [g5 b hne, hget3 b (by omega), hget2 b hb hne]
    refine roundEnd_norm hl3 rfl rfl ⟨rfl, mv, ?_, ⟨by rw [nx_obj]; omega, fun b hb hs _ => q b hb (fun e => hs (by simp [e]))⟩, .inl rfl⟩
    refine ⟨by rw [nx_obj]; omega, fun b hb => by rw [q b (by omega) (by omega)]; exact old b hb, get_obj_self _ _, by rw [q _ (by omega) (by omega)]; exact hd,
      by rw [cellAt_of_get (q _ (by omega) (by omega))]; exact c0, by rw [wrAt_of_get (q _ (by omega) (by omega))]; exact w1,
      ⟨sv, by rw [cellAt_of_get (q _ (by omega) (by omega))]; exact sc, ?_, sb⟩, q7, q10⟩
    rw [lt]
    exact sg.of_get (by rw [nx_obj]; omega) (fun b hb => q b (sg.base hb).2 (by have := (sg.base hb).1; omega))
def PostR (h : H) (l : List It) (v : AV) (h' : H) : Prop := Only h h' [] ∧ Grows 5 h.nx h' v l.length (itsC l)
def rangeI (k e : List Nat) (m : Nat) (R : List Pr) : List It := itsL m (fromL k (endL k e) (lastB e) R)
theorem rangeLoop (h0 h2 : H) (b : Nat) (k e : List Nat) (last : Bool) (m : Nat) (R : List Pr) (s : AV) (hx : IxR N h0 b R s) (hz : ∀ p, p ∈ R → W.Sz 1000 p.L) (tm : T AV) (o2 : Only h0 h2 []) (x2 : h2.nx = h0.nx + 6)
    (q1 : cellAt h2 (h0.nx + 2) 0 = some (.ptr b 0)) (q2 : cellAt h2 (h0.nx + 3) 0 = some (.str k)) (q3 : cellAt h2 (h0.nx + 5) 0 = some (.bool last)) (q4 : cellAt h2 (h0.nx + 4) 0 = some (.str e))
    (c0 : cellAt h2 h0.nx 0 = some (.int .u64 (.ofNat m))) (c1 : cellAt h2 (h0.nx + 1) 0 = some .nilslice) (w1 : wrAt h2 (h0.nx + 1) = true)
    (q7 : tm.get 7 = some (.ptr h0.nx 0)) (q10 : tm.get 10 = some (.ptr (h0.nx + 1) 0)) (q29 : tm.get 29 = some (fromV (h0.nx + 2))) (Q : KQ)
    (hQ : ∀ h3 v, Only h0 h3 [] → h0.nx + 8 ≤ h3.nx → h3.t.get (h0.nx + 6) = some (.deferred (some [])) → cellAt h3 (h0.nx + 1) 0 = some v → Grows 5 (h0.nx + 8) h3 v (itsL m (fromL k e last R)).length (itsC (itsL m (fromL k e last R))) → Q .norm [h0.nx + 6] tm h3) :
    codeW P 34 45 none (codeI (bodyC Try.f34) bodyR) [] tm h2 Q := by
  unfold bodyR
  refine st_rf rfl (f := .tmp 29) (ps := #[30, 31]) rfl rfl ?_
  refine rf_walk (g := 74) (cap := [.ptr (h0.nx + 2) 0, .ptr (h0.nx + 2 + 1) 0, .ptr (h0.nx + 2 + 3) 0, .ptr (h0.nx + 2 + 2) 0]) (by rw [evalA_tmp, q29]; rfl) (fun args h => callV_func 74 (by kernel_rfl) [] _ args) ?_
  have hbase : ∀ b, b < h2.nx → (loopH h2 34 45 tm [30, 31] (codeI (bodyC Try.f34) (0 :: bodyR)) (codeI (bodyC Try.f34) (1 :: bodyR))).t.get b = h2.t.get b := fun b hb => by rw [loopH_get, if_neg (by omega), if_neg (by omega)]
  have hbc := fun b (hb : b < h2.nx) => cellAt_of_get (hbase b hb)
  obtain ⟨ys, hys⟩ : ∃ ys, ys = fromL k e last R := ⟨_, rfl⟩
  have hysR : ∀ p, p ∈ ys → p ∈ R := fun p hp => by
    rw [hys] at hp; exact List.mem_of_mem_drop ((List.takeWhile_prefix _).subset hp)
  have hyl : ys.length ≤ 100000 := by
    have h1 := tw_le (passB e last) (R.drop (atK k R))
    have h2 := hx.ix.zz
    rw [List.length_drop] at h1
    rw [hys]; unfold fromL; omega
  have hJ0 : RJ h0 ys m (rangeR h0 tm) 0 none (loopH h2 34 45 tm [30, 31] (codeI (bodyC Try.f34) (0 :: bodyR)) (codeI (bodyC Try.f34) (1 :: bodyR))) := by
    exact ⟨by rw [loopH_nx]; omega, fun b hb => by rw [hbase b (by omega)]; exact o2.2 b hb (by simp), by rw [loopH_get, if_pos (by omega), x2], by rw [loopH_get, if_neg (by omega), if_pos (by omega)],
      by rw [hbc _ (by omega)]; exact c0, by rw [wrAt_of_get (hbase _ (by omega))]; exact w1, ⟨.nilslice, by rw [hbc _ (by omega)]; exact c1, .none, rfl⟩, q7, q10⟩
  have hxL := hx.keep hJ0.o
  have hlt := hx.ix.lt
  have hbs := hx.ix.sl.blk
  rw [x2]
  refine (fromRun _ (h0.nx + 7) b (h0.nx + 2) (h0.nx + 2 + 1) (h0.nx + 2 + 3) (h0.nx + 2 + 2) k e last R s [h0.nx + 1, h0.nx + 7] (RJ h0 ys m (rangeR h0 tm)) hxL (by rw [hbc _ (by omega)]; exact q1) (by rw [hbc _ (by omega)]; exact q2) (by rw [hbc _ (by omega)]; exact q3) (by rw [hbc _ (by omega)]; exact q4)
    (by rw [loopH_nx]; omega) ?_ (fun _ _ _ _ hj ho => hj.keep ho)
    (fun i mv h p hj _ hp => by
      rw [← hys] at hp
      have hpR := hysR p (List.mem_of_getElem? hp)
      exact rangeRound h0 ys m tm hyl i mv h p hj hp (hx.ix.gg p hpR).at (hz p hpR)) hJ0).mono P ?_
  · intro c hc
    rw [loopH_nx, x2]
    simp only [List.mem_cons, List.mem_nil_iff, or_false] at hc
    refine ⟨by omega, by omega, by omega, fun e => ?_⟩
    have := hbs c e
    omega
  rintro _ h3 ⟨mv, hj, -, -⟩
  obtain ⟨nx, old, hl, hd, -, w1', ⟨sv, sc, sg, -⟩, -⟩ := hj
  rw [← hys, List.take_length] at sg
  refine ⟨hl, ?_⟩
  obtain ⟨h4, e4⟩ : ∃ h4, h4 = h3.obj (h0.nx + 7) (.loop (loopR 34 45 tm [30, 31] (codeI (bodyC Try.f34) (0 :: bodyR)) (codeI (bodyC Try.f34) (1 :: bodyR)) (h0.nx + 6) .exhausted)) := ⟨_, rfl⟩
  show Q .norm [h0.nx + 6] tm (h3.obj (h0.nx + 7) (.loop (loopR 34 45 tm [30, 31] (codeI (bodyC Try.f34) (0 :: bodyR)) (codeI (bodyC Try.f34) (1 :: bodyR)) (h0.nx + 6) .exhausted)))
  rw [← e4]
  have g4 : ∀ b, b ≠ h0.nx + 7 → h4.t.get b = h3.t.get b := fun b hb => by rw [e4, get_obj_ne hb]
  have x4 : h4.nx = h3.nx := by rw [e4, nx_obj]
  refine hQ h4 sv ⟨by omega, fun b hb _ => by rw [g4 _ (by omega)]; exact old b hb⟩ (by omega) (by rw [g4 _ (by omega)]; exact hd) (by rw [cellAt_of_get (g4 _ (by omega))]; exact sc) ?_
  rw [← hys]
  exact sg.of_get (by omega) (fun b hb => by have := sg.base hb; rw [g4 _ (by omega)])
theorem rangeC (h : H) (b : Nat) (k e : List Nat) (m : Nat) (R : List Pr) (s : AV) (hx : IxR N h b R s) (hz : ∀ p, p ∈ R → W.Sz 1000 p.L) (hk : k.length ≤ 1000000) : PushC P (.enter 34 [.ptr b 0, .str k, .str e, W.n64 m] h) (PostR h (rangeI k e m R)) := by
  have b0 : bytesOf { data := #[0] } = [0] := rfl
  have hl : decide (e = [0]) = lastB e := rfl
  obtain ⟨h1, h1e⟩ : ∃ h1, h1 = (h.newCells 28 [.int .u64 (.ofNat m)]).newCells 75 [.nilslice] := ⟨_, rfl⟩
  have o1 : Only h h1 [] := by rw [h1e]; exact ((Only.refl _ _).new _ _).new _ _
  have x1 : h1.nx = h.nx + 2 := by rw [h1e]; rfl
  have c0 : cellAt h1 h.nx 0 = some (.int .u64 (.ofNat m)) := by rw [h1e]; simp only [B, xB, F, reduceLT, reduceLeDiff, reduceEqDiff, reduceAdd, reduceMul, reduceSub, ↓reduceIte, eq_self]
  have c1 : cellAt h1 (h.nx + 1) 0 = some .nilslice := by rw [h1e]; simp only [B, xB, F, reduceLT, reduceLeDiff, reduceEqDiff, reduceAdd, reduceMul, reduceSub, ↓reduceIte, eq_self]
  have w1 : wrAt h1 (h.nx + 1) = true := by rw [h1e]; simp only [B, xB, F, reduceLT, reduceLeDiff, reduceEqDiff, reduceAdd, reduceMul, reduceSub, ↓reduceIte, eq_self]
  have rest : ∀ (tm : T AV) (h2 : H), Only h1 h2 [] → h2.nx = h.nx + 6 → cellAt h2 (h.nx + 2) 0 = some (.ptr b 0) → cellAt h2 (h.nx + 3) 0 = some (.str k) → cellAt h2 (h.nx + 5) 0 = some (.bool (lastB e)) → cellAt h2 (h.nx + 4) 0 = some (.str (endL k e)) →
      tm.get 7 = some (.ptr h.nx 0) → tm.get 10 = some (.ptr (h.nx + 1) 0) → tm.get 29 = some (fromV (h.nx + 2)) → tm.get 8 = some .nilslice →
      codeW P 34 45 none (codeI (bodyC Try.f34) bodyR) [] tm h2 (blkK 0 (seqK (codeK P 34 45 none (codeI (bodyC Try.f34) [1, 1, 1, 1, 1, 1]) (retK P Try.f34 (PostR h (rangeI k e m R)))) (retK P Try.f34 (PostR h (rangeI k e m R))))) := by
    intro tm h2 o2 x2 f0 f1 f3 f2 q7 q10 q29 q8
    refine rangeLoop h h2 b k (endL k e) (lastB e) m R s hx hz tm (o1.t o2) x2 f0 f1 f3 f2 (W.kcell c0 o2 (by omega) (by simp)) (W.kcell c1 o2 (by omega) (by simp)) (W.kwr w1 o2 (by omega) (by simp)) q7 q10 q29 _ ?_
    intro h3 v o3 x3 hd hc hg
    have hco := hg.cells
    have hov := hg.one
    repeat' (first | ((with_reducible refine st1 ?_); (conv => whnf); (with_reducible refine ⟨?_⟩)) | ((with_reducible refine retW_intro rfl ?_); (conv => arg 2; whnf)) | ((with_reducible first | refine iB ?_ ?_ | refine gWt ?_ ?_ | refine gWf ?_ ?_) <;> intro hb <;> (try simp only [hb])) | (simp only [B, F, reduceLT, reduceLeDiff, reduceEqDiff, reduceAdd, reduceMul, reduceSub, ↓reduceIte, eq_self, q10, q8, hc]))
    refine retW_undef hd rfl ?_
    (conv => arg 2; whnf)
    simp only [B, F, reduceLT, reduceLeDiff, reduceEqDiff, reduceAdd, reduceMul, reduceSub, ↓reduceIte, eq_self]
    refine ⟨⟨by rw [nx_obj]; exact o3.1, fun c hc _ => by rw [get_obj_ne (by omega)]; exact o3.2 c hc (by simp)⟩, ?_⟩
    have hfin : Grows 5 (h.nx + 8) (h3.obj (h.nx + 6) (.deferred none)) v (rangeI k e m R).length (itsC (rangeI k e m R)) :=
      hg.of_get (by rw [nx_obj]; exact Nat.le_refl _) (fun b hb => by have := hg.base hb; rw [get_obj_ne (by omega)])
    exact hfin.weak (by omega)
  unfold W.n64
  refine pushC_of_codeW (fn := Try.f34) (c := bodyC Try.f34) Try.func34 rfl ?_
  show codeW P 34 45 none _ _ _ _ _
  refine codeW_root ?_
  by_cases q : e = []
  · have d1 : decide (e = bytesOf { data := #[] }) = true := decide_eq_true q
    have ba := fun (h : H) t x y => b_addS (h := h) (t := t) (x := x) (y := y) k [0] (by simp; omega)
    have he : k ++ [0] = endL k e := by unfold endL; rw [if_pos q]
    repeat' (first | ((with_reducible refine st1 ?_); (conv => whnf); (with_reducible refine ⟨?_⟩)) | ((with_reducible refine retW_intro rfl ?_); (conv => arg 2; whnf)) | ((with_reducible first | refine iB ?_ ?_ | refine gWt ?_ ?_ | refine gWf ?_ ?_) <;> intro hb <;> (try simp only [hb])) | (simp only [B, F, reduceLT, reduceLeDiff, reduceEqDiff, reduceAdd, reduceMul, reduceSub, ↓reduceIte, eq_self, b0, d1, ba, hl, he]))
    rw [← h1e]
    refine ((fromC h1 b k (endL k e) (lastB e)).call P).mono P ?_
    rintro v h2 ⟨rfl, o2, x2, f0, f1, f3, f2⟩
    rw [x1] at f0 f1 f2 f3 x2
    rw [x1]
    repeat' (first | ((with_reducible refine st1 ?_); (conv => whnf); (with_reducible refine ⟨?_⟩)) | ((with_reducible refine retW_intro rfl ?_); (conv => arg 2; whnf)) | ((with_reducible first | refine iB ?_ ?_ | refine gWt ?_ ?_ | refine gWf ?_ ?_) <;> intro hb <;> (try simp only [hb])) | (simp only [B, F, reduceLT, reduceLeDiff, reduceEqDiff, reduceAdd, reduceMul, reduceSub, ↓reduceIte, eq_self]))
    refine rest _ h2 o2 x2 f0 f1 f3 f2 ?_ ?_ ?_ ?_
    all_goals simp only [B, F, reduceLT, reduceLeDiff, reduceEqDiff, reduceAdd, reduceMul, reduceSub, ↓reduceIte, eq_self]
  · have d1 : decide (e = bytesOf { data := #[] }) = false := decide_eq_false q
    have he : AV.str e = .str (endL k e) := by unfold endL; rw [if_neg q]
    repeat' (first | ((with_reducible refine st1 ?_); (conv => whnf); (with_reducible refine ⟨?_⟩)) | ((with_reducible refine retW_intro rfl ?_); (conv => arg 2; whnf)) | ((with_reducible first | refine iB ?_ ?_ | refine gWt ?_ ?_ | refine gWf ?_ ?_) <;> intro hb <;> (try simp only [hb])) | (simp only [B, F, reduceLT, reduceLeDiff, reduceEqDiff, reduceAdd, reduceMul, reduceSub, ↓reduceIte, eq_self, b0, d1, hl]))
    rw [he, ← h1e]
    refine ((fromC h1 b k (endL k e) (lastB e)).call P).mono P ?_
    rintro v h2 ⟨rfl, o2, x2, f0, f1, f3, f2⟩
    rw [x1] at f0 f1 f2 f3 x2
    rw [x1]
    repeat' (first | ((with_reducible refine st1 ?_); (conv => whnf); (with_reducible refine ⟨?_⟩)) | ((with_reducible refine retW_intro rfl ?_); (conv => arg 2; whnf)) | ((with_reducible first | refine iB ?_ ?_ | refine gWt ?_ ?_ | refine gWf ?_ ?_) <;> intro hb <;> (try simp only [hb])) | (simp only [B, F, reduceLT, reduceLeDiff, reduceEqDiff, reduceAdd, reduceMul, reduceSub, ↓reduceIte, eq_self]))
    refine rest _ h2 o2 x2 f0 f1 f3 f2 ?_ ?_ ?_ ?_
    all_goals simp only [B, F, reduceLT, reduceLeDiff, reduceEqDiff, reduceAdd, reduceMul, reduceSub, ↓reduceIte, eq_self]
end
end Go.Proofs.Ytlkngpckibidlaa.X

namespace Go.Proofs
open Go.RowKit Go.Lib Go.Sort
theorem Try.isNaN79 (x : Nat) (w : World) : Calls Try.prog 79 #[.int .u64 x] w fun e w' => e = .returned (.bool false) ∧ w' = w := by
  go_enter Try.func79, Try.ntmps79
  go_wp2
  go_ret
  exact ⟨by simp, rfl⟩
set_option maxHeartbeats 1000000 in
theorem Try.compare65 (x y : Nat) (w : World) : Calls Try.prog 65 #[.int .u64 x, .int .u64 y] w fun e w' => e = .returned (.int .i64 (Lib.compareInt x y)) ∧ w' = w := by
  go_enter Try.func65, Try.ntmps65
  go_wp2_with (go_at_call 79; refine (Try.isNaN79 _ _).mono ?_; rintro e w' ⟨rfl, rfl⟩)
  all_goals (go_ret; refine ⟨?_, rfl⟩; unfold Lib.compareInt; (repeat' split) <;> first | rfl | (exfalso; omega))
def orI (a b : Int) : Int := if a = 0 then b else a
set_option maxHeartbeats 1000000 in
theorem Try.or64 (B : Nat) (a b : Int) (w : World) (h0 : w.cell? ⟨B, 0, none⟩ = some (.int .i64 a)) (h1 : w.cell? ⟨B, 1, none⟩ = some (.int .i64 b)) :
    Calls Try.prog 64 #[.slice (some ⟨B, 0, none⟩) 2 2] w fun e w' => e = .returned (.int .i64 (orI a b)) ∧ w' = w := by
  by_cases ha : a = 0
  · subst ha
    go_enter Try.func64, Try.ntmps64
    go_wp2
    refine wp_loop_rounds 3 ?_
    rw [rounds_succ]
    go_wp2
    rw [rounds_succ]
    by_cases hb : b = 0
    · subst hb
      go_wp2
      rw [rounds_succ]
      go_wp2
      go_ret
      exact ⟨by simp [orI], rfl⟩
    · have hb' : (b != 0) = true := by simpa using hb
      go_wp2
      go_ret
      exact ⟨by simp [orI], rfl⟩
  · have ha' : (a != 0) = true := by simpa using ha
    go_enter Try.func64, Try.ntmps64
    go_wp2
    refine wp_loop_rounds 3 ?_
    rw [rounds_succ]
    go_wp2
    go_ret
    exact ⟨by simp [orI, ha], rfl⟩
theorem two_fst (W : World) (c d : Array Value) (t u : TypeId) (j : Nat) : (((W.alloc (.cells c t)).alloc (.cells d u)).drew).cell? ⟨W.heap.size, j, none⟩ = c[j]? := by
  have h : (((W.alloc (.cells c t)).alloc (.cells d u)).drew).heap[W.heap.size]? = some (.cells c t) := by
    show ((W.heap.push (.cells c t)).push (.cells d u))[W.heap.size]? = _
    rw [Array.getElem?_push, if_neg (by rw [Array.size_push]; omega), Array.getElem?_push, if_pos rfl]
  unfold World.cell?
  rw [h]; rfl
theorem two_snd (W : World) (c d : Array Value) (t u : TypeId) (j : Nat) : (((W.alloc (.cells c t)).alloc (.cells d u)).drew).cell? ⟨W.heap.size + 1, j, none⟩ = d[j]? := by
  have h : (((W.alloc (.cells c t)).alloc (.cells d u)).drew).heap[W.heap.size + 1]? = some (.cells d u) := by
    show ((W.heap.push (.cells c t)).push (.cells d u))[W.heap.size + 1]? = _
    rw [Array.getElem?_push, if_pos (by rw [Array.size_push])]
  unfold World.cell?
  rw [h]; rfl
theorem two_grow (W : World) (o1 o2 : Obj) : ((W.alloc o1).alloc o2).drew = grow (W.drewN 1) (#[o1] ++ #[o2]) := by
  rw [← grow_grow]
  show ((W.alloc o1).alloc o2).drew = ({ grow (W.drewN 1) #[o1] with heap := _ } : World)
  unfold World.alloc World.drew World.drewN grow
  simp only [Array.append_singleton]
theorem cell_alloc0 (W : World) (c : Array Value) (t : TypeId) (j : Nat) : (W.alloc (.cells c t)).cell? ⟨W.heap.size, j, none⟩ = c[j]? := by
  have h : (W.alloc (.cells c t)).heap[W.heap.size]? = some (.cells c t) := by
    show (W.heap.push (.cells c t))[W.heap.size]? = _
    rw [Array.getElem?_push, if_pos rfl]
  unfold World.cell?
  rw [h]; rfl
def SameW (a b : World) : Prop := a = b
def revCf (x y : Nat × Nat) : Int := orI (Lib.compareInt x.1 y.1) (Lib.compareInt x.2 y.2)
set_option maxRecDepth 100000 in
set_option maxHeartbeats 400000 in
theorem Try.cmp63 (x y : Nat × Nat) (W : World) : Calls Try.prog 63 #[.agg #[.int .u64 x.1, .int .u64 x.2], .agg #[.int .u64 y.1, .int .u64 y.2]] W fun e w' => e = .returned (.int .i64 (revCf x y)) ∧ ∃ q os', w' = grow (W.drewN q) os' := by
  unfold revCf
  generalize hp : Lib.compareInt x.1 y.1 = p
  generalize hq : Lib.compareInt x.2 y.2 = q
  have c1 := fun W => Try.compare65 x.1 y.1 W
  have c2 := fun W => Try.compare65 x.2 y.2 W
  rw [hp] at c1
  rw [hq] at c2
  go_enter Try.func63, Try.ntmps63
  go_wp2
  refine wp_region_still_tail 10 (by kernel_rfl) (by kernel_rfl) ?_
  simp only [List.take_succ_cons, List.take_zero, List.drop_succ_cons, List.drop_zero]
  obtain ⟨W2, e2⟩ : ∃ W2, W2 = (((W.alloc (.cells #[.int .u64 x.1, .int .u64 x.2] 35)).alloc (.cells #[.int .u64 y.1, .int .u64 y.2] 35)).drew) := ⟨_, rfl⟩
  have k0 : W2.cell? ⟨W.heap.size, 0, none⟩ = some (.int .u64 x.1) := by rw [e2, two_fst]; rfl
  have k1 : W2.cell? ⟨W.heap.size, 1, none⟩ = some (.int .u64 x.2) := by rw [e2, two_fst]; rfl
  have k2 : W2.cell? ⟨W.heap.size + 1, 0, none⟩ = some (.int .u64 y.1) := by rw [e2, two_snd]; rfl
  have k3 : W2.cell? ⟨W.heap.size + 1, 1, none⟩ = some (.int .u64 y.2) := by rw [e2, two_snd]; rfl
  have eg : SameW W2 _ := e2.trans (two_grow W _ _)
  change wpStill _ _ ((((W.alloc (.cells #[.int .u64 x.1, .int .u64 x.2] 35)).alloc (.cells #[.int .u64 y.1, .int .u64 y.2] 35)).drew)) _ _ _
  rw [← e2]
  iterate 4 still_step
  still_call (c1 _)
  iterate 4 still_step
  still_call (c2 _)
  refine wpStill_nil ?_
  change wpList _ _ _ _ _ ((((W.alloc (.cells #[.int .u64 x.1, .int .u64 x.2] 35)).alloc (.cells #[.int .u64 y.1, .int .u64 y.2] 35)).drew))
  rw [← e2]
  clear c1 c2 hp hq k0 k1 k2 k3 e2
  go_wp2_with (go_at_call 64; refine (Try.or64 W2.heap.size p q _ ?_ ?_).mono ?_; (rw [cell_alloc0]; rfl); (rw [cell_alloc0]; rfl); rintro e w' ⟨rfl, rfl⟩)
  go_ret
  refine ⟨rfl, 1, ?_⟩
  have eg : W2 = _ := eg
  rw [eg, alloc_eq_grow, grow_grow]
  exact ⟨_, rfl⟩
end Go.Proofs

namespace Go.Proofs
open Go.Shelf
def Try.sortRev_ren : Go.Shelf.Ren := ⟨fun | 6 => 62 | 15 => 78 | 14 => 77 | 28 => 93 | 29 => 94 | 20 => 85 | 21 => 86 | 22 => 87 | 23 => 88 | 24 => 89 | 25 => 90 | 26 => 91 | 27 => 92 | 46 => 98 | 47 => 99 | 48 => 100 | 49 => 101 | 50 => 102 | 57 => 104 | n => n, fun | 22 => 29 | 24 => 35 | 25 => 121 | 3 => 3 | 39 => 85 | 0 => 0 | 53 => 148 | 55 => 28 | 4 => 4 | 46 => 142 | 45 => 141 | 50 => 129 | 5 => 5 | 9 => 9 | 66 => 152 | 70 => 156 | 76 => 158 | 77 => 159 | n => n, fun | n => n⟩
theorem Try.sortRev : Go.Proofs.SlLaysF0.n6 Try.prog Try.sortRev_ren := {
  mixed := by kernel_rfl
  f6 := ⟨Try.f62.name, by decide, Try.func62.trans (congrArg some (by kernel_rfl))⟩
  f14 := ⟨Try.f77.name, by decide, Try.func77.trans (congrArg some (by kernel_rfl))⟩
  f15 := Try.func78.trans (congrArg some (by kernel_rfl))
  f20 := ⟨Try.f85.name, by decide, Try.func85.trans (congrArg some (by kernel_rfl))⟩
  f21 := ⟨Try.f86.name, by decide, Try.func86.trans (congrArg some (by kernel_rfl))⟩
  f22 := ⟨Try.f87.name, by decide, Try.func87.trans (congrArg some (by kernel_rfl))⟩
  f23 := ⟨Try.f88.name, by decide, Try.func88.trans (congrArg some (by kernel_rfl))⟩
  f24 := ⟨Try.f89.name, by decide, Try.func89.trans (congrArg some (by kernel_rfl))⟩
  f25 := ⟨Try.f90.name, by decide, Try.func90.trans (congrArg some (by kernel_rfl))⟩
  f26 := ⟨Try.f91.name, by decide, Try.func91.trans (congrArg some (by kernel_rfl))⟩
  f27 := ⟨Try.f92.name, by decide, Try.func92.trans (congrArg some (by kernel_rfl))⟩
  f28 := Try.func93.trans (congrArg some (by kernel_rfl))
  f29 := Try.func94.trans (congrArg some (by kernel_rfl))
  f46 := ⟨Try.f98.name, by decide, Try.func98.trans (congrArg some (by kernel_rfl))⟩
  f47 := Try.func99.trans (congrArg some (by kernel_rfl))
  f48 := Try.func100.trans (congrArg some (by kernel_rfl))
  f49 := ⟨Try.f101.name, by decide, Try.func101.trans (congrArg some (by kernel_rfl))⟩
  f50 := ⟨Try.f102.name, by decide, Try.func102.trans (congrArg some (by kernel_rfl))⟩
  f57 := ⟨Try.f104.name, by decide, Try.func104.trans (congrArg some (by kernel_rfl))⟩
  t0 := Try.underlying0
  a0 := Try.isAgg0
  z0 := Try.sizeOf0
  v0 := Try.zeroValue0
  t3 := Try.underlying3
  a3 := Try.isAgg3
  z3 := Try.sizeOf3
  v3 := Try.zeroValue3
  t4 := Try.underlying4
  a4 := Try.isAgg4
  z4 := Try.sizeOf4
  v4 := Try.zeroValue4
  t5 := Try.underlying5
  a5 := Try.isAgg5
  z5 := Try.sizeOf5
  v5 := Try.zeroValue5
  t9 := Try.underlying9
  a9 := Try.isAgg9
  z9 := Try.sizeOf9
  v9 := Try.zeroValue9
  t22 := Try.underlying29
  a22 := Try.isAgg29
  z22 := Try.sizeOf29
  v22 := Try.zeroValue29
  t25 := Try.underlying121
  a25 := Try.isAgg121
  z25 := Try.sizeOf121
  v25 := Try.zeroValue121
  t39 := Try.underlying85
  a39 := Try.isAgg85
  z39 := Try.sizeOf85
  v39 := Try.zeroValue85
  t45 := Try.underlying141
  a45 := Try.isAgg141
  z45 := Try.sizeOf141
  v45 := Try.zeroValue141
  t46 := Try.underlying142
  a46 := Try.isAgg142
  z46 := Try.sizeOf142
  v46 := Try.zeroValue142
  t50 := Try.underlying129
  a50 := Try.isAgg129
  z50 := Try.sizeOf129
  v50 := Try.zeroValue129
  t53 := Try.underlying148
  a53 := Try.isAgg148
  z53 := Try.sizeOf148
  v53 := Try.zeroValue148
  t55 := Try.underlying28
  a55 := Try.isAgg28
  z55 := Try.sizeOf28
  v55 := Try.zeroValue28
  t66 := Try.underlying152
  a66 := Try.isAgg152
  z66 := Try.sizeOf152
  v66 := Try.zeroValue152
  t70 := Try.underlying156
  a70 := Try.isAgg156
  z70 := Try.sizeOf156
  v70 := Try.zeroValue156
  t76 := Try.underlying158
  a76 := Try.isAgg158
  z76 := Try.sizeOf158
  v76 := Try.zeroValue158
  t77 := Try.underlying159
  a77 := Try.isAgg159
  z77 := Try.sizeOf159
  v77 := Try.zeroValue159 }
end Go.Proofs

namespace Go.AX
noncomputable section
open Go.RowKit Go.Sort Go.Shelf Go.Proofs
section
variable {P : Program} {ρ : Ren} {α : Type} [Inhabited α]
theorem flat_len_k {β : Type} {f : α → List β} {k : Nat} (hf : ∀ x, (f x).length = k) : ∀ l : List α, (l.flatMap f).length = l.length * k
  | [] => by simp
  | x :: l => by rw [List.flatMap_cons, List.length_append, hf, flat_len_k hf l, List.length_cons, Nat.add_mul]; omega
theorem flat_at_k {β : Type} {f : α → List β} {k : Nat} (hk : 0 < k) (hf : ∀ x, (f x).length = k) : ∀ (l : List α) (j : Nat), j < l.length * k → ∃ x, l[j / k]? = some x ∧ (l.flatMap f)[j]? = (f x)[j % k]?
  | [], j, h => by simp at h
  | x :: l, j, h => by
    rw [List.flatMap_cons]
    by_cases q : j < k
    · refine ⟨x, by rw [Nat.div_eq_of_lt q]; rfl, ?_⟩
      rw [List.getElem?_append_left (by rw [hf]; exact q), Nat.mod_eq_of_lt q]
    · obtain ⟨y, h1, h2⟩ := flat_at_k hk hf l (j - k) (by rw [List.length_cons, Nat.add_mul] at h; omega)
      refine ⟨y, ?_, ?_⟩
      · rw [Nat.div_eq_sub_div hk (by omega)]; simpa using h1
      · rw [List.getElem?_append_right (by rw [hf]; omega), hf, h2, Nat.mod_eq_sub_mod (show k ≤ j by omega)]
structure EncR (encA : α → List AV) (enc : α → List Value) (k : Nat) : Prop where
  k0 : 0 < k
  ln : ∀ x, (encA x).length = k
  one : ∀ x v, v ∈ encA x → v.one = true
  rel : ∀ (φ : Phi) (x : α) (j : Nat) (a : AV) (cv : Value), (encA x)[j]? = some a → (VR φ a cv ↔ (enc x)[j]? = some cv)
  lv : ∀ x, (enc x).length = k
  ov : ∀ x, ∀ v ∈ enc x, v.oneCell' = true
theorem get_flat_toArray {enc : α → List Value} {k : Nat} {d : List α} {j : Nat} {x : α} {v : Value} (hj : j < d.length * k) (hx : d[j / k]? = some x) (hv : (enc x)[j % k]? = some v) : (flatK enc k d.toArray)[j]! = v := by
  rw [get_flatK enc k d.toArray j (by simpa using hj)]
  have h1 : d.toArray[j / k]! = x := by
    obtain ⟨h1, h2⟩ := List.getElem?_eq_some_iff.1 hx
    rw [getElem!_pos _ _ (by simpa using h1)]; simpa using h2
  rw [h1]
  obtain ⟨h1, h2⟩ := List.getElem?_eq_some_iff.1 hv
  rw [getElem!_pos (enc x) (j % k) h1]; exact h2
theorem sortF_ok (L : SlLaysF0.n6 P ρ) {k : Nat} {encA : α → List AV} {enc : α → List Value} (hE : EncR encA enc k) (aE : ∀ w, (isAgg (ρ.t 24)).run P w = .ok true w) (zE : ∀ w, (Go.sizeOf (ρ.t 24)).run P w = .ok k w)
    {cf : α → α → Int} (hO : SWO (ltOf cf)) (hT : ∀ x y, (ltOf cf) x y = false → (ltOf cf) y x = false → x = y) {g : Nat} (eg : ∀ args w, (callFunc g args).run P w = .ok (.enter g args) w)
    (hcmp : ∀ x y W, Calls P g #[.agg (enc x).toArray, .agg (enc y).toArray] W fun e w' => e = .returned (.int .i64 (cf x y)) ∧ ∃ q os', w' = grow (W.drewN q) os')
    {h : H} {b o : Nat} {cap : Cap} {d : List α} (hz : d.length < 4611686018427387904) (hc : CellsAt h b o (d.flatMap encA)) (hw : wrAt h b = true) (f : FuncId) (hf : ρ.f 6 = f) {Q : AV → H → Prop}
    (hq : Q (.tuple []) (h.sts b o ((d.mergeSort fun x y => !(ltOf cf) y x).flatMap encA))) : CallC P (.enter f [.slice b o d.length cap, .func g [] []] h) Q := by
  classical
  subst hf
  obtain ⟨d', hd'⟩ : ∃ d', d' = d.mergeSort fun x y => !(ltOf cf) y x := ⟨_, rfl⟩
  have hlen : d'.length = d.length := by rw [hd', List.length_mergeSort]
  rw [← hd'] at hq
  let K : Hook := ⟨fun f0 args h0 => if f0 = ρ.f 6 ∧ args = [.slice b o d.length cap, .func g [] []] ∧ h0 = h then some (.tuple [], h.sts b o (d'.flatMap encA)) else none, fun _ _ _ => none⟩
  have hK : HookOk P K := by
    refine ⟨?_, fun _ _ _ _ _ h => (by cases h)⟩
    intro f0 args h0 v h' hk N φ w cargs hr hN ha
    replace hk : (if f0 = ρ.f 6 ∧ args = [.slice b o d.length cap, .func g [] []] ∧ h0 = h then some (AV.tuple [], h.sts b o (d'.flatMap encA)) else none) = some (v, h') := hk
    by_cases hcond : f0 = ρ.f 6 ∧ args = [.slice b o d.length cap, .func g [] []] ∧ h0 = h
    · rw [if_pos hcond] at hk
      obtain ⟨rfl, rfl, rfl⟩ := hcond
      cases hk
      obtain ⟨v1, vs, hc1, h1, hr2⟩ := All2.cons_left.1 ha
      obtain ⟨v2, vs2, hc2, h2, hr3⟩ := All2.cons_left.1 hr2
      have := All2.nil_left.1 hr3; subst this; subst hc2
      have hca : cargs = #[v1, v2] := by cases cargs; simp_all
      subst hca
      obtain ⟨L0, kc, hL, rfl⟩ : ∃ L k, φ b = some L ∧ v1 = .slice (some ⟨L.B, L.base + o, none⟩) d.length k := by
        cases cap with
        | exact c => rw [VR_sliceEx] at h1; obtain ⟨L, h1, h2⟩ := h1; exact ⟨L, c, h1, h2⟩
        | opn i => rw [VR_sliceOp] at h1; obtain ⟨L, h1, h2, _⟩ := h1; exact ⟨L, _, h1, h2⟩
      rw [VR_func] at h2
      obtain ⟨a1, a2, rfl, e1, e2⟩ := h2
      have := All2.nil_left.1 e1
      have ha1 : a1 = #[] := by cases a1; simp_all
      have := All2.nil_left.1 e2
      have ha2 : a2 = #[] := by cases a2; simp_all
      subst ha1; subst ha2
      unfold wrAt at hw
      split at hw
      · rename_i m t kk hb
        obtain ⟨c, ty, frz, g1, g2, g3, g4, g5⟩ := hr.get hb hL
        have hlt : L0.B < w.heap.size := (hr.get hb hL).lt
        obtain ⟨hNB, hfr⟩ := g4 rfl
        have hcell : ∀ j, j < d.length * k → ∃ x a cv, d[j / k]? = some x ∧ t.get (o + j) = some a ∧ c[L0.base + (o + j)]? = some cv ∧ (enc x)[j % k]? = some cv ∧ o + j < m := by
          intro j hj
          obtain ⟨x, hx, hxe⟩ := flat_at_k hE.k0 hE.ln d j hj
          have hcj := hc j (by rw [flat_len_k hE.ln]; exact hj)
          have hm : j % k < (encA x).length := by rw [hE.ln]; exact Nat.mod_lt _ hE.k0
          rw [hxe, List.getElem?_eq_getElem hm] at hcj
          unfold cellAt at hcj
          rw [hb] at hcj
          obtain ⟨q1, q2, cv, q3, q4⟩ := g3 _ _ hcj
          exact ⟨x, _, cv, hx, hcj, q3, (hE.rel φ x _ _ cv (List.getElem?_eq_getElem hm)).1 q4, q1⟩
        have hH : HoldsK enc k w L0.B (L0.base + o) d.toArray := by
          intro j hj
          rw [size_flatK] at hj
          have hj' : j < d.length * k := by simpa using hj
          obtain ⟨x, a, cv, q1, q2, q3, q4, q5⟩ := hcell j hj'
          rw [get_flat_toArray hj' q1 q4]
          refine ⟨by rw [cell_eq g1, Nat.add_assoc]; exact q3, ?_⟩
          rw [frozen_eq g1]
          have hi := (Array.getElem?_eq_some_iff.1 q3).1
          have := hfr _ hi
          rw [Nat.add_assoc]
          simp only [Bool.and_eq_false_iff, decide_eq_false_iff_not]; omega
        refine (AnyQ.slices_SortFunc_total L k aE zE enc hE.lv hE.ov cf hO g #[] L0.B (L0.base + o) kc d.toArray w eg (fun _ _ _ _ x y => hcmp x y _) hH hlt (by simpa using hz) hT).mono ?_
        rintro e w' ⟨rfl, nd, os, rfl⟩
        have htl : (d.toArray.toList.mergeSort fun x y => !(ltOf cf) y x) = d' := by rw [hd']
        rw [htl]
        unfold sortWorldK
        -- the row is written
        have hw1 : ∀ x, (putRowK enc k (Sort.ahead w nd) L0.B (L0.base + o) d'.toArray).heap[x]? = if x = L0.B then some (.cells (putCells id (L0.base + o) (flatK enc k d'.toArray) c) ty frz) else w.heap[x]? := by
          intro x
          unfold putRowK putRow mapBlock
          simp only [Array.getElem?_modify, heap_ahead]
          by_cases q : L0.B = x
          · subst q; rw [if_pos rfl, if_pos rfl, g1]; rfl
          · rw [if_neg q, if_neg (fun e => q e.symm)]
        have hput : HR N φ (h0.sts b o (d'.flatMap encA)) (putRowK enc k (Sort.ahead w nd) L0.B (L0.base + o) d'.toArray) := by
          unfold H.sts; rw [hb]
          refine hr.set hb hL _ (fun x hx => by rw [hw1, if_neg hx]) ?_
          have hsz : (putCells id (L0.base + o) (flatK enc k d'.toArray) c).size = c.size := by simp [putCells]
          refine ⟨_, ty, frz, by rw [hw1, if_pos rfl], by rw [hsz]; exact g2, fun i v hi => ?_, fun _ => ⟨hNB, by rw [hsz]; exact hfr⟩, fun e => by rw [hsz]; exact g5.1 e, g5.2⟩
          rw [setL_get] at hi
          have hfl : (d'.flatMap encA).length = d.length * k := by rw [flat_len_k hE.ln, hlen]
          have hcl : ∀ v, c[L0.base + i]? = some v → (putCells id (L0.base + o) (flatK enc k d'.toArray) c)[L0.base + i]? = some (if L0.base + o ≤ L0.base + i ∧ L0.base + i < L0.base + o + d.length * k then (flatK enc k d'.toArray)[L0.base + i - (L0.base + o)]! else v) := by
            intro v hv
            unfold putCells
            rw [Array.getElem?_mapIdx, hv, size_flatK]
            simp only [Option.map_some, List.size_toArray, hlen, id]
          split at hi
          · rename_i q
            rw [hfl] at q
            obtain ⟨x, hx, hxe⟩ := flat_at_k hE.k0 hE.ln d' (i - o) (by rw [hlen]; omega)
            rw [hxe] at hi
            obtain ⟨_, _, cv, _, _, q3, _, q5⟩ := hcell (i - o) (by omega)
            have hm : (i - o) % k < (enc x).length := by rw [hE.lv]; exact Nat.mod_lt _ hE.k0
            have hev := List.getElem?_eq_getElem hm
            rw [show o + (i - o) = i by omega] at q3 q5
            refine ⟨q5, hE.one x _ (List.mem_of_getElem? hi), _, ?_, (hE.rel φ x _ _ _ hi).2 hev⟩
            rw [hcl _ q3, if_pos (by omega), show L0.base + i - (L0.base + o) = i - o by omega, get_flat_toArray (by rw [hlen]; omega) hx hev]
          · rename_i q
            rw [hfl] at q
            obtain ⟨q1, q2, cv, q3, q4⟩ := g3 i v hi
            refine ⟨q1, q2, cv, ?_, q4⟩
            rw [hcl _ q3, if_neg (by omega)]
        have hb1 : Below N.n w (putRowK enc k (Sort.ahead w nd) L0.B (L0.base + o) d'.toArray) :=
          ⟨rfl, rfl, rfl, by unfold putRowK; simp, fun x hx => by rw [hw1, if_neg (by omega)]⟩
        have hb2 : Below (putRowK enc k (Sort.ahead w nd) L0.B (L0.base + o) d'.toArray).heap.size (putRowK enc k (Sort.ahead w nd) L0.B (L0.base + o) d'.toArray) (grow (putRowK enc k (Sort.ahead w nd) L0.B (L0.base + o) d'.toArray) os) :=
          ⟨rfl, rfl, rfl, by unfold grow; simp, fun x hx => by unfold grow; simp only; rw [Array.getElem?_append_left hx]⟩
        have hbel : Below N.n w (grow (putRowK enc k (Sort.ahead w nd) L0.B (L0.base + o) d'.toArray) os) := by
          refine ⟨rfl, rfl, rfl, Nat.le_trans hb1.size hb2.size, fun x hx => ?_⟩
          rw [hb2.block x (by have := hb1.size; omega), hb1.block x hx]
        refine ⟨φ, _, rfl, φ.le_refl, by simp, ?_, hbel⟩
        exact ⟨fun x ox hx hn => let ⟨L1, p1, p2⟩ := hput.obj x ox hx hn; ⟨L1, p1, p2.congr (hb2.block _ p2.lt)⟩, hput.inj, hput.lt, hput.res, hput.glob⟩
      · cases hw
    · rw [if_neg hcond] at hk; cases hk
  exact CallC.of_hook P hK (by show (if _ then _ else _) = _; rw [if_pos ⟨rfl, rfl, rfl⟩]) hq
end
end
end Go.AX
namespace Go.AX
noncomputable section
open Go.RowKit Go.Sort Go.Shelf Go.Proofs
theorem sortF_none {P : Program} {ρ : Ren} (L : SlLaysF0.n6 P ρ) {h : H} {fv : AV} (f : FuncId) (hf : ρ.f 6 = f) {Q : AV → H → Prop} (hq : Q (.tuple []) h) : CallC P (.enter f [.nilslice, fv] h) Q := by
  classical
  subst hf
  let K : Hook := ⟨fun f0 args h0 => if f0 = ρ.f 6 ∧ args = [.nilslice, fv] ∧ h0 = h then some (.tuple [], h) else none, fun _ _ _ => none⟩
  have hK : HookOk P K := by
    refine ⟨?_, fun _ _ _ _ _ h => (by cases h)⟩
    intro f0 args h0 v h' hk N φ w cargs hr hN ha
    replace hk : (if f0 = ρ.f 6 ∧ args = [.nilslice, fv] ∧ h0 = h then some (AV.tuple [], h) else none) = some (v, h') := hk
    by_cases hcond : f0 = ρ.f 6 ∧ args = [.nilslice, fv] ∧ h0 = h
    · rw [if_pos hcond] at hk
      obtain ⟨rfl, rfl, rfl⟩ := hcond
      cases hk
      obtain ⟨v1, vs, hc1, h1, hr2⟩ := All2.cons_left.1 ha
      obtain ⟨v2, vs2, hc2, h2, hr3⟩ := All2.cons_left.1 hr2
      have := All2.nil_left.1 hr3; subst this; subst hc2
      have hca : cargs = #[v1, v2] := by cases cargs; simp_all
      subst hca
      rw [VR_nilslice] at h1
      subst h1
      refine (AnyF.slices_SortFunc_none L none 0 v2 w).mono ?_
      rintro e w' ⟨rfl, rfl⟩
      exact ⟨φ, _, rfl, φ.le_refl, by simp, hr, Below.refl _ _⟩
    · rw [if_neg hcond] at hk; cases hk
  exact CallC.of_hook P hK (by show (if _ then _ else _) = _; rw [if_pos ⟨rfl, rfl, rfl⟩]) hq
end
end Go.AX


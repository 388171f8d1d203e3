/-
  AX: walks: the rules for drawn regions, said shortly.
-/
import Derived.Test.YtakgpgamcmemgaaGreatG0
import Derived.Test.YtakgpgamcmemgaaGreatAxF
import Derived.Lib.Overlaps
import Derived.ProofKit
import Derived.OpenShut
import Derived.ChangeSlices
import Derived.OpenVars
import Derived.ChangeStays
import Derived.ChangeBook
import Derived.ChangeArms
import Derived.Deep.Slices
import Derived.Test.YtakgpgamcmemgaaGreatProg
import Derived.KernelRfl
set_option linter.unusedSimpArgs false
set_option linter.unusedVariables false
set_option linter.unusedSectionVars false
namespace Go.AX
noncomputable section
open Go.RowKit
structure Hold (p : Prop) : Prop where
  h : p
def st1F (P : Program) (fn nt : Nat) (ro : Option Nat) (c : Code) (rp : List Nat) (ds : List Nat) (tm : T AV) (h : H) (Q : KQ) : Code → Prop
  | .skip => Hold (Q .norm ds tm h)
  | .seq _ _ => Hold (codeW P fn nt ro (codeI c (0 :: rp)) ds tm h (seqK (codeK P fn nt ro (codeI c (1 :: rp)) Q) Q))
  | .region _ ops false => Hold (opsW P nt ops ops.toList tm h (Q .norm ds))
  | .cond x _ _ => Hold (condW (evalA tm x) (codeW P fn nt ro (codeI c (0 :: rp)) ds tm h Q) (codeW P fn nt ro (codeI c (1 :: rp)) ds tm h Q))
  | .block i _ => Hold (codeW P fn nt ro (codeI c (0 :: rp)) ds tm h (blkK i Q))
  | .scope _ => Hold (codeW P fn nt ro (codeI c (0 :: rp)) ds tm h Q)
  | .exit i => Hold (Q (.exit i) ds tm h)
  | .ret => Hold (Q .ret ds tm h)
  | _ => False
theorem st1 {P : Program} {fn nt : Nat} {ro : Option Nat} {c : Code} {rp : List Nat} {ds : List Nat} {tm : T AV} {h : H} {Q : KQ} (hw : st1F P fn nt ro c rp ds tm h Q (codeI c rp)) : codeW P fn nt ro (codeI c rp) ds tm h Q := by
  cases e : codeI c rp with
  | skip => rw [e] at hw; rw [← e]; exact st_skip (by rw [e]; rfl) hw.h
  | seq a b => rw [e] at hw; rw [← e]; exact st_seq (by rw [e]; rfl) hw.h
  | region i ops d =>
    rw [e] at hw; rw [← e]
    cases d with
    | false => exact st_reg (by rw [e]; rfl) (by rw [e]; rfl) rfl hw.h
    | true => exact absurd hw id
  | cond x a b => rw [e] at hw; rw [← e]; exact st_cond (by rw [e]; rfl) (by rw [e]; rfl) hw.h
  | block i a => rw [e] at hw; rw [← e]; exact st_block (by rw [e]; rfl) (by rw [e]; rfl) hw.h
  | scope a => rw [e] at hw; rw [← e]; exact st_scope (by rw [e]; rfl) hw.h
  | exit i => rw [e] at hw; rw [← e]; exact st_exit (by rw [e]; rfl) (by rw [e]; rfl) hw.h
  | ret => rw [e] at hw; rw [← e]; exact st_ret (by rw [e]; rfl) hw.h
  | _ => rw [e] at hw; exact absurd hw id
def rdB (o : Oper) : Bool := isRead o.op && o.guard.isNone
def rgB (o : Oper) : Bool := isRead o.op && !isAlloc o
def cvB (P : Program) (o : Oper) : Bool := isConv o.op && (scalarConv P o.op && o.guard.isNone)
def xqB (nt : Nat) (o : Oper) : Bool := !isRead o.op && (!isConv o.op && (!isAlloc o && dstOk nt o.dst))
def flB (o : Oper) : Bool := isFl o && !isAlloc o
theorem flB_eq {o : Oper} (h : flB o = true) : isFl o = true ∧ isAlloc o = false := by
  unfold flB at h
  rw [Bool.and_eq_true, Bool.not_eq_true'] at h; exact h
theorem rdB_eq {o : Oper} (h : rdB o = true) : isRead o.op = true ∧ o.guard = none := by
  unfold rdB at h
  rw [Bool.and_eq_true, Option.isNone_iff_eq_none] at h; exact h
theorem rdB_alloc {o : Oper} (h : isRead o.op = true) : isAlloc o = false := by
  obtain ⟨d, op, t, p, a, g⟩ := o
  cases op <;> first | (cases h; done) | (cases g <;> rfl)
theorem cvB_eq {P : Program} {o : Oper} (h : cvB P o = true) : isConv o.op = true ∧ scalarConv P o.op = true ∧ o.guard = none := by
  unfold cvB at h
  rw [Bool.and_eq_true, Bool.and_eq_true, Option.isNone_iff_eq_none] at h; exact h
theorem cvB_alloc {o : Oper} (h : isConv o.op = true) : isAlloc o = false := by
  obtain ⟨d, op, t, p, a, g⟩ := o
  cases op <;> first | (cases h; done) | (cases g <;> rfl)
theorem xqB_eq {nt : Nat} {o : Oper} (h : xqB nt o = true) : isRead o.op = false ∧ isConv o.op = false ∧ isAlloc o = false ∧ dstOk nt o.dst = true := by
  unfold xqB at h
  simpa using h
section
variable {P : Program} {nt : Nat} {ops : Array Oper} {i n : Nat} {o : Oper} {l : List Oper} {os : List Nat} {early : List (Nat × Oper × Nat)} {tm : T AV} {h : H} {Q : T AV → H → Prop}
theorem ke_rd {b : Nat} (ha : rdB o = true) (hw : exW P (execA P tm h o.op) (sK nt tm o.dst)) (hl : eOk P nt ops tm h early) : eOk P nt ops tm h ((i, o, b) :: early) :=
  eok_read (rdB_alloc (rdB_eq ha).1) (rdB_eq ha).1 (rdB_eq ha).2 hw hl
theorem ke_rg {b : Nat} {g : Nat × Bool} (ha : isRead o.op = true) (hg : o.guard = some g) (hw : gX (guardV tm ops g) (exW P (execA P tm h o.op) (sK nt tm o.dst)) (slotV nt tm o.dst und)) (hl : eOk P nt ops tm h early) : eOk P nt ops tm h ((i, o, b) :: early) :=
  eok_readg (rdB_alloc ha) ha hg hw hl
theorem ke_cv {b : Nat} (_hx : isConv o.op = true) (ha : cvB P o = true) (hw : exW P (execA P tm h o.op) (sK nt tm o.dst)) (hl : eOk P nt ops tm h early) : eOk P nt ops tm h ((i, o, b) :: early) :=
  eok_conv (cvB_alloc (cvB_eq ha).1) (cvB_eq ha).1 (cvB_eq ha).2.1 (cvB_eq ha).2.2 hw hl
theorem ke_al {b : Nat} {t : TypeId} (ha : isAlloc o = true) (ho : o.op = .alloc t) (hz : zF (zeroA P t) t (h.t.get b)) (hs : slotV nt tm o.dst (.ptr b 0)) (hl : eOk P nt ops tm h early) : eOk P nt ops tm h ((i, o, b) :: early) :=
  eok_alloc' ha ho hz hs hl
theorem kI_nl (hq : Q tm h) (he : eOk P nt ops tm h early) : drawI P nt ops i [] early tm h Q := dI_nil he hq
theorem kI_rd (ha : rdB o = true) (hw : exW P (execA P tm h o.op) (dK P nt ops (i + 1) o.dst l ((i, o, 0) :: early) tm Q)) : drawI P nt ops i (o :: l) early tm h Q := dI_read (rdB_eq ha).1 (rdB_eq ha).2 hw
theorem kI_rg {g : Nat × Bool} (hk : isRead o.op = true) (hg : o.guard = some g) (hw : gX (guardV tm ops g) (exW P (execA P tm h o.op) (dK P nt ops (i + 1) o.dst l ((i, o, 0) :: early) tm Q)) (dK P nt ops (i + 1) o.dst l ((i, o, 0) :: early) tm Q und h)) :
    drawI P nt ops i (o :: l) early tm h Q := dI_readg hk hg hw
theorem kI_cv (_hx : isConv o.op = true) (ha : cvB P o = true) (hw : exW P (execA P tm h o.op) (dK P nt ops (i + 1) o.dst l ((i, o, 0) :: early) tm Q)) : drawI P nt ops i (o :: l) early tm h Q := dI_conv (cvB_eq ha).1 (cvB_eq ha).2.1 (cvB_eq ha).2.2 hw
theorem kI_al {t : TypeId} (ha : isAlloc o = true) (ho : o.op = .alloc t) (hw : exW P (execA P tm h (.alloc t)) (dK P nt ops (i + 1) o.dst l ((i, o, h.nx) :: early) tm Q)) : drawI P nt ops i (o :: l) early tm h Q := dI_alloc ha ho hw
theorem kI_ex (ha : xqB nt o = true) (h4 : chainB i [i] (idxd (i + 1) l) = true) (hg : o.guard = none) (hw : exW P (execA P tm h o.op) (dK P nt ops (i + 1) o.dst l (dropF (edgesOf o.after.toList) early) tm Q)) (he : eOk P nt ops tm h early) :
    drawI P nt ops i (o :: l) early tm h Q := dI_exec (xqB_eq ha).1 (xqB_eq ha).2.1 (xqB_eq ha).2.2.1 h4 (xqB_eq ha).2.2.2 hg he hw
theorem kI_eg {g : Nat × Bool} (ha : xqB nt o = true) (h4 : chainB i [i] (idxd (i + 1) l) = true) (hg : o.guard = some g)
    (hw : gX (guardV tm ops g) (exW P (execA P tm h o.op) (dK P nt ops (i + 1) o.dst l (dropF (edgesOf o.after.toList) early) tm Q)) (dK P nt ops (i + 1) o.dst l (dropF (edgesOf o.after.toList) early) tm Q und h)) (he : eOk P nt ops tm h early) :
    drawI P nt ops i (o :: l) early tm h Q := dI_execg (xqB_eq ha).1 (xqB_eq ha).2.1 (xqB_eq ha).2.2.1 h4 (xqB_eq ha).2.2.2 hg he hw
theorem kP_nl (hq : Q tm h) (he : eOk P nt ops tm h early) : drawP P nt ops l [] early tm h Q := dP_nil he hq
theorem kP_rd (hn : nthO l n = some o) (ha : rdB o = true) (hw : exW P (execA P tm h o.op) (pK P nt ops l os o.dst ((n, o, 0) :: early) tm Q)) : drawP P nt ops l (n :: os) early tm h Q := dP_read hn (rdB_eq ha).1 (rdB_eq ha).2 hw
theorem kP_rg {g : Nat × Bool} (hn : nthO l n = some o) (hk : isRead o.op = true) (hg : o.guard = some g) (hw : gX (guardV tm ops g) (exW P (execA P tm h o.op) (pK P nt ops l os o.dst ((n, o, 0) :: early) tm Q)) (pK P nt ops l os o.dst ((n, o, 0) :: early) tm Q und h)) :
    drawP P nt ops l (n :: os) early tm h Q := dP_readg hn hk hg hw
theorem kP_cv (hn : nthO l n = some o) (_hx : isConv o.op = true) (ha : cvB P o = true) (hw : exW P (execA P tm h o.op) (pK P nt ops l os o.dst ((n, o, 0) :: early) tm Q)) : drawP P nt ops l (n :: os) early tm h Q := dP_conv hn (cvB_eq ha).1 (cvB_eq ha).2.1 (cvB_eq ha).2.2 hw
theorem kP_al {t : TypeId} (hn : nthO l n = some o) (ha : isAlloc o = true) (ho : o.op = .alloc t) (hw : exW P (execA P tm h (.alloc t)) (pK P nt ops l os o.dst ((n, o, h.nx) :: early) tm Q)) : drawP P nt ops l (n :: os) early tm h Q := dP_alloc hn ha ho hw
theorem kP_ex (hn : nthO l n = some o) (ha : xqB nt o = true) (h4 : chainB n [n] (pickL l os) = true) (hg : o.guard = none) (hw : exW P (execA P tm h o.op) (pK P nt ops l os o.dst (dropF (edgesOf o.after.toList) early) tm Q)) (he : eOk P nt ops tm h early) :
    drawP P nt ops l (n :: os) early tm h Q := dP_exec hn (xqB_eq ha).1 (xqB_eq ha).2.1 (xqB_eq ha).2.2.1 h4 (xqB_eq ha).2.2.2 hg he hw
theorem kP_eg {g : Nat × Bool} (hn : nthO l n = some o) (ha : xqB nt o = true) (h4 : chainB n [n] (pickL l os) = true) (hg : o.guard = some g)
    (hw : gX (guardV tm ops g) (exW P (execA P tm h o.op) (pK P nt ops l os o.dst (dropF (edgesOf o.after.toList) early) tm Q)) (pK P nt ops l os o.dst (dropF (edgesOf o.after.toList) early) tm Q und h)) (he : eOk P nt ops tm h early) :
    drawP P nt ops l (n :: os) early tm h Q := dP_execg hn (xqB_eq ha).1 (xqB_eq ha).2.1 (xqB_eq ha).2.2.1 h4 (xqB_eq ha).2.2.2 hg he hw
theorem kP_fl (hn : nthO l n = some o) (hf : flB o = true) (h4 : chainB n [n] (pickL l os) = false) (hg : gO tm ops o.guard)
    (hx : fX (fresh2 P tm o.op) fun t r k => pK P nt ops l os o.dst ((n, o, h.nx) :: early) tm Q (.slice h.nx 0 k (.exact k)) (h.newCells t r)) : drawP P nt ops l (n :: os) early tm h Q := dP_float hn (flB_eq hf).1 (flB_eq hf).2 h4 hg hx
theorem ke_fl {b : Nat} (hf : flB o = true) (hg : gO tm ops o.guard) (hx : fX (fresh2 P tm o.op) (fun t l n => freshIs t l (h.t.get b) = true ∧ slotV nt tm o.dst (.slice b 0 n (.exact n)))) (hl : eOk P nt ops tm h early) : eOk P nt ops tm h ((i, o, b) :: early) :=
  eok_float (flB_eq hf).2 (flB_eq hf).1 hg hx hl
theorem xB : ((type_of% @dK_def) ∧ (type_of% @gX_true) ∧ (type_of% @gX_false) ∧ (type_of% @sK_def) ∧ (type_of% @slotV_some) ∧ (type_of% @slotV_none) ∧ (type_of% @zF_some) ∧ (type_of% @pK_def) ∧ (type_of% @gO_none) ∧ (type_of% @gO_some) ∧ (type_of% @fX_some) ∧ (type_of% @obf_some) ∧ (type_of% @fresh2_bs) ∧ (type_of% @rowSR_ok) ∧ (type_of% @rowS_C)) :=
  ⟨@dK_def, @gX_true, @gX_false, @sK_def, @slotV_some, @slotV_none, @zF_some, @pK_def, @gO_none, @gO_some, @fX_some, @obf_some, @fresh2_bs, @rowSR_ok, @rowS_C⟩
theorem gWt {o : Op} {d : Option Tmp} {l : List Oper} {b : Bool} (h1 : b = true → exW P (execA P tm h o) (opK P nt ops d l tm Q)) (h2 : b = false → opK P nt ops d l tm Q und h) : gW P (some (b == true)) nt ops o d l tm h Q := by
  cases b
  · exact h2 rfl
  · exact h1 rfl
theorem gWf {o : Op} {d : Option Tmp} {l : List Oper} {b : Bool} (h1 : b = true → opK P nt ops d l tm Q und h) (h2 : b = false → exW P (execA P tm h o) (opK P nt ops d l tm Q)) : gW P (some (b == false)) nt ops o d l tm h Q := by
  cases b
  · exact h2 rfl
  · exact h1 rfl
theorem gXt {b : Bool} {p q : Prop} (h1 : b = true → p) (h2 : b = false → q) : gX (some (b == true)) p q := by
  cases b
  · exact h2 rfl
  · exact h1 rfl
theorem gXf {b : Bool} {p q : Prop} (h1 : b = true → q) (h2 : b = false → p) : gX (some (b == false)) p q := by
  cases b
  · exact h2 rfl
  · exact h1 rfl
theorem iB {b : Bool} {p q : Prop} (h1 : b = true → p) (h2 : b = false → q) : ifB b p q := ⟨h1, h2⟩
end
end
end Go.AX

namespace Go.AX
noncomputable section
open Go.RowKit
section
variable {P : Program} {tm : T AV} {h : H}
def oH (x : Option H) : R :=
  match x with
  | some h => .skip h
  | none => .fail
theorem oH_some (h : H) : oH (some h) = .skip h := id rfl
theorem ex_lookup (t : TypeId) (x i : Operand) (ok : Bool) : execA P tm h (.lookup t x i ok) = ob (evalA tm x) fun v => ob (evalA tm i) fun j => ob (lookupA P t v j ok h) fun v => .val v h := by
  simp only [execA]
  cases evalA tm x with
  | none => cases evalA tm i <;> rfl
  | some v => cases evalA tm i <;> rfl
theorem ex_mapUpdate (t : TypeId) (m k x : Operand) : execA P tm h (.mapUpdate t m k x) = ob (evalA tm m) fun m => ob (evalA tm k) fun k => ob (evalA tm x) fun x => oH (updateA P t m k x h) := by
  simp only [execA]
  cases evalA tm m with
  | none => cases evalA tm k <;> cases evalA tm x <;> rfl
  | some v => cases evalA tm k with
    | none => cases evalA tm x <;> rfl
    | some w => cases evalA tm x <;> rfl
theorem ex_insert (t : TypeId) (m k x : Operand) : execA P tm h (.insert t m k x) = ob (evalA tm m) fun m => ob (evalA tm k) fun k => ob (evalA tm x) fun x => oH (updateA P t m k x h) := by
  simp only [execA]
  cases evalA tm m with
  | none => cases evalA tm k <;> cases evalA tm x <;> rfl
  | some v => cases evalA tm k with
    | none => cases evalA tm x <;> rfl
    | some w => cases evalA tm x <;> rfl
theorem ex_mapEntry (t : TypeId) (m k : Operand) : execA P tm h (.mapEntry t m k) = ob (evalA tm m) fun m => ob (evalA tm k) fun k => mapEntryA P t m k h := by
  simp only [execA]
  cases evalA tm m with
  | none => cases evalA tm k <;> rfl
  | some v => cases evalA tm k <;> rfl
theorem ex_entryStore (t : TypeId) (m s x : Operand) : execA P tm h (.entryStore t m s x) = ob (evalA tm m) fun m => ob (evalA tm s) fun s => ob (evalA tm x) fun x => oH (entryStoreA m s x h) := by
  simp only [execA]
  cases evalA tm m with
  | none => cases evalA tm s <;> cases evalA tm x <;> rfl
  | some v => cases evalA tm s with
    | none => cases evalA tm x <;> rfl
    | some w => cases evalA tm x <;> rfl
theorem exW_oH (h : H) (K : AV → H → Prop) : exW P (oH (some h)) K = K und h := id rfl
end
section
variable {κ : Type} [DecidableEq κ]
def posK (k : κ) : List (κ × AV) → Nat → Option (Nat × AV)
  | [], _ => none
  | (a, v) :: L, i => if k = a then some (i, v) else posK k L (i + 1)
def mapGet (k : κ) (L : List (κ × AV)) : Option AV := (L.find? fun p => decide (k = p.1)).map (·.2)
def mapPut (k : κ) (v : AV) : List (κ × AV) → List (κ × AV)
  | [] => [(k, v)]
  | (a, w) :: L => if k = a then (a, v) :: L else (a, w) :: mapPut k v L
def mapDel (k : κ) : List (κ × AV) → List (κ × AV)
  | [] => []
  | (a, w) :: L => if k = a then L else (a, w) :: mapDel k L
theorem pos_get (k : κ) : ∀ (L : List (κ × AV)) (i : Nat), (posK k L i).map (·.2) = mapGet k L
  | [], _ => rfl
  | (a, v) :: L, i => by
    unfold posK mapGet
    rw [List.find?_cons]
    by_cases e : k = a
    · simp [e]
    · simp only [e, if_false, decide_false]
      exact pos_get k L (i + 1)
theorem pos_le (k : κ) : ∀ {L : List (κ × AV)} {i j : Nat} {v : AV}, posK k L i = some (j, v) → i ≤ j
  | [], _, _, _, h => by cases h
  | (a, w) :: L, i, j, v, h => by
    unfold posK at h
    split at h
    · cases h; exact Nat.le_refl _
    · exact Nat.le_trans (Nat.le_succ _) (pos_le k h)
structure KeyT (P : Program) (kt : TypeId) (enc : κ → AV) : Prop where
  kv : ∀ k, keyV P 4 kt (enc k) = true
  eq : ∀ a b, keyEq P kt (enc a) (enc b) = some (decide (a = b))
  sm : ∀ a, sameV (enc a) (enc a) = true
def entP (e : AV × AV × Nat) : AV × AV := (e.1, e.2.1)
def encP (enc : κ → AV) (p : κ × AV) : AV × AV := (enc p.1, p.2)
structure MapK (enc : κ → AV) (h : H) (r : Nat) (L : List (κ × AV)) : Prop where
  has : ∃ es clock, h.t.get r = some (.map es clock) ∧ es.map entP = L.map (encP enc) ∧ (es.map (·.2.2)).Nodup ∧ ∀ e, e ∈ es → e.2.2 < clock
  lt : r < h.nx
variable {P : Program} {kt : TypeId} {enc : κ → AV}
theorem find_pos (hk : KeyT P kt enc) (k : κ) : ∀ {es : List (AV × AV × Nat)} {L : List (κ × AV)} (i : Nat), es.map entP = L.map (encP enc) → findA P kt (enc k) es i = some (posK k L i)
  | [], [], i, _ => rfl
  | [], p :: L, i, h => by simp at h
  | e :: es, [], i, h => by simp at h
  | e :: es, (a, v) :: L, i, h => by
    rw [List.map_cons, List.map_cons, List.cons.injEq] at h
    have e1 : e.1 = enc a := congrArg Prod.fst h.1
    have e2 : e.2.1 = v := congrArg Prod.snd h.1
    unfold findA posK
    rw [e1, hk.eq k a]
    by_cases q : k = a
    · simp [q, e2]
    · simp only [q, decide_false, if_false]
      exact find_pos hk k (i + 1) h.2
theorem set_put (k : κ) (v : AV) : ∀ {es : List (AV × AV × Nat)} {L : List (κ × AV)} {i j : Nat} {w : AV}, es.map entP = L.map (encP enc) → posK k L i = some (j, w) → (setVal v es (j - i)).map entP = (mapPut k v L).map (encP enc) ∧ (setVal v es (j - i)).map (·.2.2) = es.map (·.2.2)
  | [], [], i, j, w, _, hp => by cases hp
  | [], p :: L, i, j, w, h, _ => by simp at h
  | e :: es, [], i, j, w, h, _ => by simp at h
  | e :: es, (a, u) :: L, i, j, w, h, hp => by
    rw [List.map_cons, List.map_cons, List.cons.injEq] at h
    have e1 : e.1 = enc a := congrArg Prod.fst h.1
    unfold posK at hp
    unfold mapPut
    by_cases q : k = a
    · rw [if_pos q] at hp
      cases hp
      rw [if_pos q, Nat.sub_self]
      refine ⟨?_, rfl⟩
      unfold setVal
      rw [List.map_cons, List.map_cons, h.2]
      unfold entP encP
      rw [e1]
    · rw [if_neg q] at hp
      rw [if_neg q]
      have hle := pos_le k hp
      obtain ⟨j', rfl⟩ : ∃ j', j = i + 1 + j' := ⟨j - (i + 1), by omega⟩
      have ih := set_put k v h.2 hp
      rw [show i + 1 + j' - (i + 1) = j' by omega] at ih
      rw [show i + 1 + j' - i = j' + 1 by omega]
      unfold setVal
      rw [List.map_cons, List.map_cons, List.map_cons, List.map_cons, ih.1, ih.2, h.1]
      exact ⟨rfl, rfl⟩
theorem put_new (k : κ) (v : AV) : ∀ {L : List (κ × AV)} {i : Nat}, posK k L i = none → mapPut k v L = L ++ [(k, v)]
  | [], _, _ => rfl
  | (a, w) :: L, i, h => by
    unfold posK at h
    unfold mapPut
    by_cases q : k = a
    · rw [if_pos q] at h; cases h
    · rw [if_neg q] at h
      rw [if_neg q, put_new k v h]; rfl
theorem same_at (hk : KeyT P kt enc) (k : κ) : ∀ {es : List (AV × AV × Nat)} {L : List (κ × AV)} {i j : Nat} {w : AV}, es.map entP = L.map (encP enc) → posK k L i = some (j, w) → sameAt (enc k) es (j - i) = true ∧ ∃ e, es[j - i]? = some e ∧ e.1 = enc k ∧ e.2.1 = w
  | [], [], i, j, w, _, hp => by cases hp
  | [], p :: L, i, j, w, h, _ => by simp at h
  | e :: es, [], i, j, w, h, _ => by simp at h
  | e :: es, (a, u) :: L, i, j, w, h, hp => by
    rw [List.map_cons, List.map_cons, List.cons.injEq] at h
    have e1 : e.1 = enc a := congrArg Prod.fst h.1
    have e2 : e.2.1 = u := congrArg Prod.snd h.1
    unfold posK at hp
    by_cases q : k = a
    · rw [if_pos q] at hp
      cases hp
      rw [Nat.sub_self]
      unfold sameAt
      simp only [List.getElem?_cons_zero]
      rw [e1, ← q]
      exact ⟨hk.sm k, e, rfl, by rw [e1, q], e2⟩
    · rw [if_neg q] at hp
      have hle := pos_le k hp
      have ih := same_at hk k h.2 hp
      rw [show j - i = (j - (i + 1)) + 1 by omega]
      unfold sameAt at ih ⊢
      rw [List.getElem?_cons_succ]
      exact ih
theorem del_at (k : κ) : ∀ {es : List (AV × AV × Nat)} {L : List (κ × AV)} {i j : Nat} {w : AV}, es.map entP = L.map (encP enc) → posK k L i = some (j, w) → (es.eraseIdx (j - i)).map entP = (mapDel k L).map (encP enc)
  | [], [], i, j, w, _, hp => by cases hp
  | [], p :: L, i, j, w, h, _ => by simp at h
  | e :: es, [], i, j, w, h, _ => by simp at h
  | e :: es, (a, u) :: L, i, j, w, h, hp => by
    rw [List.map_cons, List.map_cons, List.cons.injEq] at h
    unfold posK at hp
    unfold mapDel
    by_cases q : k = a
    · rw [if_pos q] at hp
      cases hp
      rw [if_pos q, Nat.sub_self]
      exact h.2
    · rw [if_neg q] at hp
      rw [if_neg q]
      have hle := pos_le k hp
      have ih := del_at k h.2 hp
      rw [show j - i = (j - (i + 1)) + 1 by omega, List.eraseIdx_cons_succ, List.map_cons, List.map_cons, ih, h.1]
theorem del_no (k : κ) : ∀ {L : List (κ × AV)} {i : Nat}, posK k L i = none → mapDel k L = L
  | [], _, _ => rfl
  | (a, w) :: L, i, h => by
    unfold posK at h
    unfold mapDel
    by_cases q : k = a
    · rw [if_pos q] at h; cases h
    · rw [if_neg q] at h
      rw [if_neg q, del_no k h]
theorem MapK.get {h h' : H} {r : Nat} {L : List (κ × AV)} (hm : MapK enc h r L) (hx : h.nx ≤ h'.nx) (e : h'.t.get r = h.t.get r) : MapK enc h' r L :=
  ⟨by obtain ⟨es, c, h1, h2⟩ := hm.has; exact ⟨es, c, by rw [e]; exact h1, h2⟩, Nat.lt_of_lt_of_le hm.lt hx⟩
theorem MapK.keep {h h' : H} {r : Nat} {L : List (κ × AV)} (hm : MapK enc h r L) {S : List Nat} (o : Only h h' S) (hr : r ∉ S) : MapK enc h' r L := hm.get o.1 (o.2 r hm.lt hr)
variable {t elem : TypeId} {h : H} {r : Nat} {L : List (κ × AV)}
theorem lookup_k (ht : P.underlying t = some (.map kt elem)) (hk : KeyT P kt enc) {z : AV} (hz : zeroA P elem = some z) (hm : MapK enc h r L) (k : κ) (ok : Bool) :
    lookupA P t (.map r) (enc k) ok h = some (match ok with | true => .tuple [(mapGet k L).getD z, .bool (mapGet k L).isSome] | false => (mapGet k L).getD z) := by
  obtain ⟨es, c, h1, h2, h3, h4⟩ := hm.has
  unfold lookupA
  simp only [ht, hk.kv k, h1, find_pos hk k 0 h2, hz]
  rw [← pos_get k L 0]
  cases posK k L 0 with
  | none => cases ok <;> rfl
  | some x => cases ok <;> rfl
theorem len_k (ht : P.underlying t = some (.map kt elem)) (hm : MapK enc h r L) (ts : List TypeId) (xs : List AV) : builtinA P .len (t :: ts) (.map r :: xs) h = .val (.int .i64 (.ofNat L.length)) h := by
  obtain ⟨es, c, h1, h2, h3, h4⟩ := hm.has
  have hl : es.length = L.length := by have := congrArg List.length h2; simpa using this
  simp only [builtinA, lenA, ht, h1, hl]
theorem update_k (ht : P.underlying t = some (.map kt elem)) (hk : KeyT P kt enc) (hm : MapK enc h r L) (k : κ) (v : AV) :
    ∃ h', updateA P t (.map r) (enc k) v h = some h' ∧ MapK enc h' r (mapPut k v L) ∧ h'.nx = h.nx ∧ Only h h' [r] ∧ h'.g = h.g := by
  obtain ⟨es, c, h1, h2, h3, h4⟩ := hm.has
  have hlt := hm.lt
  cases hp : posK k L 0 with
  | none =>
    have ho : Only h { h with t := h.t.set r (some (.map (es ++ [(enc k, v, c)]) (c + 1))) } [r] := ⟨Nat.le_refl _, fun b hb hn => by
      rw [T.get_set, if_neg (fun e => hn (by rw [e]; simp))]⟩
    refine ⟨{ h with t := h.t.set r (some (.map (es ++ [(enc k, v, c)]) (c + 1))) }, by unfold updateA; simp only [ht, hk.kv k, h1, find_pos hk k 0 h2, hp], ⟨⟨es ++ [(enc k, v, c)], c + 1, by rw [T.get_set, if_pos rfl], ?_, ?_, fun e he => ?_⟩, hlt⟩, rfl, ho, rfl⟩
    · rw [put_new k v hp, List.map_append, List.map_append, h2]; rfl
    · rw [List.map_append, List.nodup_append]
      refine ⟨h3, by simp, fun a ha b hb => ?_⟩
      simp only [List.map_cons, List.map_nil, List.mem_singleton] at hb
      obtain ⟨e, he, rfl⟩ := List.mem_map.1 ha
      have := h4 e he
      omega
    · rcases List.mem_append.1 he with q | q
      · have := h4 e q; omega
      · rw [List.mem_singleton] at q; subst q; exact Nat.lt_succ_self _
  | some x =>
    obtain ⟨j, w⟩ := x
    have hsa := (same_at hk k h2 hp).1
    obtain ⟨s1, s2⟩ := set_put k v h2 hp
    rw [Nat.sub_zero] at hsa s1 s2
    refine ⟨{ h with t := h.t.set r (some (.map (setVal v es j) c)) }, by unfold updateA; simp only [ht, hk.kv k, h1, find_pos hk k 0 h2, hp, hsa], ⟨⟨setVal v es j, c, by rw [T.get_set, if_pos rfl], s1, by rw [s2]; exact h3, fun e he => ?_⟩, hlt⟩, rfl, ⟨Nat.le_refl _, fun b hb hn => by
      rw [T.get_set, if_neg (fun e => hn (by rw [e]; simp))]⟩, rfl⟩
    have : e.2.2 ∈ es.map (·.2.2) := by rw [← s2]; exact List.mem_map_of_mem he
    obtain ⟨e', he', q⟩ := List.mem_map.1 this
    rw [← q]; exact h4 e' he'
theorem delete_k (ht : P.underlying t = some (.map kt elem)) (hk : KeyT P kt enc) (hm : MapK enc h r L) (k : κ) :
    ∃ h', deleteA P t (.map r) (enc k) h = some h' ∧ MapK enc h' r (mapDel k L) ∧ h'.nx = h.nx ∧ Only h h' [r] ∧ h'.g = h.g := by
  obtain ⟨es, c, h1, h2, h3, h4⟩ := hm.has
  have hlt := hm.lt
  cases hp : posK k L 0 with
  | none =>
    refine ⟨h, by unfold deleteA; simp only [ht, hk.kv k, h1, find_pos hk k 0 h2, hp], ?_, rfl, ⟨Nat.le_refl _, fun _ _ _ => rfl⟩, rfl⟩
    rw [del_no k hp]; exact hm
  | some x =>
    obtain ⟨j, w⟩ := x
    have s1 := del_at k h2 hp
    rw [Nat.sub_zero] at s1
    refine ⟨{ h with t := h.t.set r (some (.map (es.eraseIdx j) c)) }, by unfold deleteA; simp only [ht, hk.kv k, h1, find_pos hk k 0 h2, hp], ⟨⟨es.eraseIdx j, c, by rw [T.get_set, if_pos rfl], s1, ?_, fun e he => h4 e (List.mem_of_mem_eraseIdx he)⟩, hlt⟩, rfl, ⟨Nat.le_refl _, fun b hb hn => by
      rw [T.get_set, if_neg (fun e => hn (by rw [e]; simp))]⟩, rfl⟩
    exact h3.sublist ((List.eraseIdx_sublist es j).map _)
theorem bi_delete_k (ht : P.underlying t = some (.map kt elem)) (hk : KeyT P kt enc) (hm : MapK enc h r L) (k : κ) (ts : List TypeId) (xs : List AV) :
    ∃ h', builtinA P .delete (t :: ts) (.map r :: enc k :: xs) h = .val und h' ∧ MapK enc h' r (mapDel k L) ∧ h'.nx = h.nx ∧ Only h h' [r] ∧ h'.g = h.g := by
  obtain ⟨h', e, q⟩ := delete_k ht hk hm k
  exact ⟨h', by simp only [builtinA, e], q⟩
theorem newMap (h : H) (enc : κ → AV) : MapK enc (h.alloc (.map [] 0)) h.nx [] := ⟨⟨[], 0, by unfold H.alloc; rw [T.get_set, if_pos rfl], rfl, List.nodup_nil, fun e he => by cases he⟩, Nat.lt_succ_self _⟩
theorem findBorn_at : ∀ {es : List (AV × AV × Nat)} {i : Nat} {e : AV × AV × Nat} (b : Nat), es[i]? = some e → (es.map (·.2.2)).Nodup → findBorn (Int.ofNat e.2.2) es b = some (b + i)
  | [], i, e, b, h, _ => by simp at h
  | a :: es, 0, e, b, h, _ => by
    simp at h; subst h
    unfold findBorn
    rw [beq_self_eq_true]; rfl
  | a :: es, i + 1, e, b, h, hn => by
    rw [List.getElem?_cons_succ] at h
    rw [List.map_cons, List.nodup_cons] at hn
    unfold findBorn
    have hne : (Int.ofNat a.2.2 == Int.ofNat e.2.2) = false := by
      rw [beq_eq_false_iff_ne]
      intro q
      exact hn.1 (by rw [Int.ofNat.inj q]; exact List.mem_map_of_mem (List.mem_of_getElem? h))
    rw [hne]
    have := findBorn_at (b + 1) h hn.2
    simp only [this]
    congr 1; omega
theorem entry_k (ht : P.underlying t = some (.map kt elem)) (hk : KeyT P kt enc) {z : AV} (hz : zeroA P elem = some z) (hm : MapK enc h r L) (k : κ) :
    ∃ h1 n, mapEntryA P t (.map r) (enc k) h = .val (.tuple [(mapGet k L).getD z, .int .i64 (Int.ofNat n)]) h1 ∧ h1.nx = h.nx ∧ (Only h h1 [r] ∧ h1.g = h.g) ∧
      ∀ v h2 kd, h.nx ≤ h2.nx → h2.t.get r = h1.t.get r → ∃ h3, entryStoreA (.map r) (.int kd (Int.ofNat n)) v h2 = some h3 ∧ MapK enc h3 r (mapPut k v L) ∧ h3.nx = h2.nx ∧ Only h2 h3 [r] ∧ h3.g = h2.g := by
  obtain ⟨es, c, h1, h2, h3, h4⟩ := hm.has
  have hlt := hm.lt
  have hst : ∀ (h2 : H) (x : AObj), Only h2 { h2 with t := h2.t.set r (some x) } [r] := fun h2 x => ⟨Nat.le_refl _, fun b hb hn => by
      rw [T.get_set, if_neg (fun e => hn (by rw [e]; simp))]⟩
  cases hp : posK k L 0 with
  | none =>
    have hg : (mapGet k L) = none := by rw [← pos_get k L 0, hp]; rfl
    refine ⟨{ h with t := h.t.set r (some (.map (es ++ [(enc k, z, c)]) (c + 1))) }, c, by unfold mapEntryA; simp only [ht, hk.kv k, h1, find_pos hk k 0 h2, hp, hz, hg]; rfl, rfl, ⟨hst _ _, rfl⟩, fun v hb kd hx he => ?_⟩
    rw [T.get_set, if_pos rfl] at he
    have hn : ((es ++ [(enc k, z, c)]).map (·.2.2)).Nodup := by
      rw [List.map_append, List.nodup_append]
      refine ⟨h3, by simp, fun a ha b hb => ?_⟩
      simp only [List.map_cons, List.map_nil, List.mem_singleton] at hb
      obtain ⟨e, he, rfl⟩ := List.mem_map.1 ha
      have := h4 e he
      omega
    have hfb := findBorn_at (es := es ++ [(enc k, z, c)]) (i := es.length) (e := (enc k, z, c)) 0 (by simp) hn
    rw [Nat.zero_add] at hfb
    have hsv : ∀ es : List (AV × AV × Nat), setVal v (es ++ [(enc k, z, c)]) es.length = es ++ [(enc k, v, c)] := by
      intro es
      induction es with
      | nil => rfl
      | cons a es ih => rw [List.cons_append, List.length_cons]; unfold setVal; rw [ih]; rfl
    refine ⟨{ hb with t := hb.t.set r (some (.map (es ++ [(enc k, v, c)]) (c + 1))) }, by unfold entryStoreA; simp only [he, hfb, hsv], ⟨⟨es ++ [(enc k, v, c)], c + 1, by rw [T.get_set, if_pos rfl], ?_, ?_, fun e he => ?_⟩, by show r < hb.nx; omega⟩, rfl, hst _ _, rfl⟩
    · rw [put_new k v hp, List.map_append, List.map_append, h2]; rfl
    · rw [List.map_append] at hn ⊢; exact hn
    · rcases List.mem_append.1 he with q | q
      · have := h4 e q; omega
      · rw [List.mem_singleton] at q; subst q; exact Nat.lt_succ_self _
  | some x =>
    obtain ⟨j, w⟩ := x
    obtain ⟨hsa, e, he1, he2, he3⟩ := same_at hk k h2 hp
    obtain ⟨-, s2⟩ := set_put (enc := enc) k z h2 hp
    rw [Nat.sub_zero] at hsa he1
    have hg : (mapGet k L) = some w := by rw [← pos_get k L 0, hp]; rfl
    refine ⟨h, e.2.2, by unfold mapEntryA; simp only [ht, hk.kv k, h1, find_pos hk k 0 h2, hp, hsa, he1, hg]; rfl, rfl, ⟨⟨Nat.le_refl _, fun _ _ _ => rfl⟩, rfl⟩, fun v hb kd hx he => ?_⟩
    rw [h1] at he
    have hfb := findBorn_at 0 he1 h3
    rw [Nat.zero_add] at hfb
    obtain ⟨s1, s2⟩ := set_put (enc := enc) k v h2 hp
    rw [Nat.sub_zero] at s1 s2
    refine ⟨{ hb with t := hb.t.set r (some (.map (setVal v es j) c)) }, by unfold entryStoreA; simp only [he, hfb], ⟨⟨setVal v es j, c, by rw [T.get_set, if_pos rfl], s1, by rw [s2]; exact h3, fun e he => ?_⟩, by show r < hb.nx; omega⟩, rfl, hst _ _, rfl⟩
    have : e.2.2 ∈ es.map (·.2.2) := by rw [← s2]; exact List.mem_map_of_mem he
    obtain ⟨e', he', q⟩ := List.mem_map.1 this
    rw [← q]; exact h4 e' he'
end
theorem keyT_int {P : Program} {kt : TypeId} {kd : IntKind} (hu : P.underlying kt = some (.int kd)) : KeyT P kt (fun n : Nat => .int kd (.ofNat n)) where
  kv k := by unfold keyV; simp only [hu]
  eq a b := by
    unfold keyEq eqA
    simp only [hu, eqB_self, eq_nat]
  sm a := by
    unfold sameV same1
    simp only [eqB_self, Bool.true_and, eq_nat, decide_true]
theorem keyT_str {P : Program} {kt : TypeId} (hu : P.underlying kt = some .string) : KeyT P kt (fun s : List Nat => .str s) where
  kv k := by unfold keyV; simp only [hu]
  eq a b := by
    unfold keyEq eqA
    simp only [hu]
    congr 1
    rw [Bool.eq_iff_iff, decide_eq_true_iff]
    exact listEqB_iff a b
  sm a := by
    unfold sameV same1
    exact (listEqB_iff a a).2 rfl
end
end Go.AX

namespace Go.AX
noncomputable section
open Go.RowKit
def openH (h : H) (b c : Nat) : H :=
  match h.t.get b with
  | some (.cells _ t k false) => { h with t := h.t.set b (some (.cells (c * k.sz) t k false)) }
  | _ => h
section
variable {P : Program}
theorem openH_get {h : H} {b c m : Nat} {t : T AV} {k : EK} (hb : h.t.get b = some (.cells m t k false)) (b' : Nat) : (openH h b c).t.get b' = if b' = b then some (.cells (c * k.sz) t k false) else h.t.get b' := by
  unfold openH; rw [hb]; exact T.get_set _ _ _ _
theorem openH_nx (h : H) (b c : Nat) : (openH h b c).nx = h.nx := by unfold openH; split <;> rfl
theorem open_rel {N : NN} {φ : Phi} {h : H} {w : World} (hr : HR N φ h w) {b m : Nat} {t : T AV} {k : EK} (hb : h.t.get b = some (.cells m t k false)) (hk : 0 < k.sz) {L : Loc} (hL : φ b = some L) : m ≤ L.K * k.sz ∧ HR N φ (openH h b L.K) w := by
  have ho := hr.get hb hL
  obtain ⟨c, ty, frz, g1, g2, g3, g4, g5, g6⟩ := ho
  have hsz := (g5 (by omega)).1
  refine ⟨by omega, ?_⟩
  have hs := hr.set hb hL (.cells (L.K * k.sz) t k false) (w' := w) (fun _ _ => rfl) ⟨c, ty, frz, g1, by omega, fun i v hv => by
    obtain ⟨a1, a2, a3⟩ := g3 i v hv
    exact ⟨by omega, a2, a3⟩, g4, g5, g6⟩
  unfold openH; rw [hb]; exact hs
theorem pushC_open {f : FuncId} {rest : List AV} {h : H} {Q : AV → H → Prop} {b m len : Nat} {t : T AV} {k : EK} (hb : h.t.get b = some (.cells m t k false)) (hk : 0 < k.sz)
    (hw : ∀ c, len ≤ c → m ≤ c * k.sz → PushC P (.enter f (.slice b 0 len (.exact c) :: rest) (openH h b c)) Q) : PushC P (.enter f (.slice b 0 len (.opn 0) :: rest) h) Q := by
  intro bfr cs hfin
  have hent : ∀ (x : AV) (h' : H) s0, pushS P bfr cs (.enter f (x :: rest) h') = some s0 → ∃ fn c, P.funcs[f]? = some fn ∧ fn.body = some c ∧ s0 = ⟨mkF f (Nat.max (rest.length + 1) fn.ntmps) .normal none [] (T.fill .e 0 (x :: rest)) [.code c], bfr :: cs, h'⟩ := by
    intro x h' s0 e
    simp only [pushS, enterA] at e
    split at e
    · rename_i fr he
      cases e
      split at he
      · rename_i fn hf
        split at he
        · rename_i c hc
          cases he
          exact ⟨fn, c, hf, hc, rfl⟩
        · cases he
      · cases he
    · cases e
  obtain ⟨M, hM1, hM2⟩ : ∃ M, len ≤ M ∧ m ≤ M * k.sz := ⟨len + m, by omega, Nat.le_trans (Nat.le_add_left m len) (Nat.le_mul_of_pos_right _ hk)⟩
  obtain ⟨s1, e1, -⟩ := hw M hM1 hM2 bfr cs hfin
  obtain ⟨fn, c, hf, hc, -⟩ := hent _ _ _ e1
  have hpush : ∀ (x : AV) (h' : H), pushS P bfr cs (.enter f (x :: rest) h') = some ⟨mkF f (Nat.max (rest.length + 1) fn.ntmps) .normal none [] (T.fill .e 0 (x :: rest)) [.code c], bfr :: cs, h'⟩ := fun x h' => by
    simp only [pushS, enterA, hf, hc]; rfl
  refine ⟨_, hpush _ _, ?_⟩
  intro N w0 bot φ fr fcs w hs
  obtain ⟨hF, hcs, hh, hbl, hN⟩ := hs
  have hF := hF.un rfl
  obtain ⟨f1, ⟨f2, f2'⟩, f3, f4, f5, f6, f7⟩ := hF
  have h0 := f2' 0
  rw [T.get_fill0] at h0
  have h0 : VR φ (.slice b 0 len (.opn 0)) (fr.tmps.getD 0 Go.undef) := h0
  rw [VR_sliceOp] at h0
  obtain ⟨L, hL, hv, hle⟩ := h0
  obtain ⟨hm, hopen⟩ := open_rel hh hb hk hL
  obtain ⟨s2, e2, hl2⟩ := hw L.K (by omega) hm bfr cs hfin
  rw [hpush] at e2
  cases e2
  refine hl2 N w0 bot φ fr fcs w ⟨.mk rfl ⟨f1, ⟨f2, fun i => ?_⟩, f3, f4, f5, f6, f7⟩, hcs, hopen, hbl, hN⟩
  have hi := f2' i
  rw [T.get_fill0] at hi ⊢
  cases i with
  | zero =>
    show VR φ (.slice b 0 len (.exact L.K)) _
    rw [VR_sliceEx]
    exact ⟨L, hL, by rw [hv]; simp⟩
  | succ i => exact hi
end
end
end Go.AX

namespace Go.AX
noncomputable section
open Go.RowKit
def overExt (f0 : FuncId) (f : FuncId) (args : List AV) (h : H) : Option (AV × H) :=
  match Nat.beq f f0 with
  | true => match args with
    | [.slice b1 _ _ _, .slice b2 _ _ _] => match Nat.beq b1 b2, h.t.get b1, h.t.get b2 with
      | false, some (.cells _ _ k1 false), some (.cells m2 _ _ _) => match Nat.beq k1.sz 0, Nat.beq m2 0 with
        | true, false => some (.bool false, h)
        | _, _ => none
      | _, _, _ => none
    | _ => none
  | false => none
def overHook (f0 : FuncId) : Hook := ⟨fun _ _ _ => none, overExt f0⟩
theorem slice_is {φ : Phi} {b o n : Nat} {c : Cap} {v : Value} (h : VR φ (.slice b o n c) v) : ∃ L k, φ b = some L ∧ v = .slice (some ⟨L.B, L.base + o, none⟩) n k := by
  cases c with
  | exact c => rw [VR_sliceEx] at h; obtain ⟨L, h1, h2⟩ := h; exact ⟨L, c, h1, h2⟩
  | opn i => rw [VR_sliceOp] at h; obtain ⟨L, h1, h2, _⟩ := h; exact ⟨L, _, h1, h2⟩
theorem overHook_ok {P : Program} {f0 : FuncId} {t r e : TypeId} {size : Nat} (ht : P.underlying t = some (.slice e)) (hz : ∀ w, (Go.sizeOf e).run P w = .ok size w) (he : ExtIs P f0 (Extern.SlicesOverlaps.overlaps #[t, t] #[r])) : HookOk P (overHook f0) := by
  refine ⟨fun _ _ _ _ _ h => (by cases h), ?_⟩
  intro f args h v h' hk N φ w cargs hr hN ha
  unfold overHook overExt at hk
  simp only at hk
  split at hk
  · rename_i hf
    have hf := Nat.eq_of_beq_eq_true hf; subst hf
    split at hk
    · rename_i b1 o1 n1 c1 b2 o2 n2 c2
      split at hk
      · rename_i m1 t1 k1 m2 t2 k2 ro2 hb hg1 hg2
        split at hk
        · rename_i hs hm
          cases hk
          obtain ⟨v1, vs, hc, h1, hr2⟩ := All2.cons_left.1 ha
          obtain ⟨v2, vs2, hc2, h2, hr3⟩ := All2.cons_left.1 hr2
          have := All2.nil_left.1 hr3; subst this; subst hc2
          have hca : cargs = #[v1, v2] := by cases cargs; simp_all
          subst hca
          obtain ⟨L1, q1, e1, rfl⟩ := slice_is h1
          obtain ⟨L2, q2, e2, rfl⟩ := slice_is h2
          obtain ⟨x1, y1, z1, g1, g2, g3, g4, g5, g6, g7, g8⟩ := hr.get hg1 e1
          obtain ⟨x2, y2, z2, k1', k2', -⟩ := hr.get hg2 e2
          have hs := Nat.eq_of_beq_eq_true hs
          have hz1 := g8 hs rfl
          subst hz1
          have hne : L1.B ≠ L2.B := fun q => by
            have := hr.inj _ _ _ _ _ _ hg1 hg2 e1 e2 q
            subst this; rw [Nat.beq_refl] at hb; cases hb
          have hm : m2 ≠ 0 := fun q => by subst q; cases hm
          refine ⟨φ, .bool false, w, ?_, φ.le_refl, by simp, hr, Below.refl _ _⟩
          rw [ext_run he, Lib.run_overlaps_apart w t r e ht size hz ⟨L1.B, L1.base + o1, none⟩ ⟨L2.B, L2.base + o2, none⟩ n1 q1 n2 q2 hne y1 y2 x1.size x2.size (by simp [World.shape?, g1]) (by simp [World.shape?, k1']) (by omega) (by simp [World.frozen?, g1]) (by simp [World.frozen?, g1])]
          rfl
        · cases hk
      · cases hk
    · cases hk
  · cases hk
end
end Go.AX

namespace Go.AX
noncomputable section
open Go.RowKit
section
variable {P : Program} {h : H} {tm : T AV}
theorem ex_sl_l (t : TypeId) (x a : Operand) : execA P tm h (.slice t x (some a) none none) = ob (evalA tm x) fun v => ob (evalA tm a) fun l => ob (sliceA P t v (some l) none none) fun v => .val v h := by
  simp only [execA, evalO]
  cases evalA tm x with
  | none => cases evalA tm a <;> rfl
  | some v =>
    cases evalA tm a with
    | none => rfl
    | some l => simp only [ob]; cases sliceA P t v (some l) none none <;> rfl
theorem ex_sl_h (t : TypeId) (x a : Operand) : execA P tm h (.slice t x none (some a) none) = ob (evalA tm x) fun v => ob (evalA tm a) fun l => ob (sliceA P t v none (some l) none) fun v => .val v h := by
  simp only [execA, evalO]
  cases evalA tm x with
  | none => cases evalA tm a <;> rfl
  | some v =>
    cases evalA tm a with
    | none => rfl
    | some l => simp only [ob]; cases sliceA P t v none (some l) none <;> rfl
theorem ble_t {a b : Nat} (h : a ≤ b) : Nat.ble a b = true := by rw [Nat.ble_eq]; exact h
theorem ble_f {a b : Nat} (h : b < a) : Nat.ble a b = false := by rw [← Bool.not_eq_true, Nat.ble_eq]; omega
theorem beq_f {a b : Nat} (h : a ≠ b) : Nat.beq a b = false := by
  cases q : Nat.beq a b with
  | false => rfl
  | true => exact absurd (Nat.eq_of_beq_eq_true q) h
theorem sl_ex_l {t e : TypeId} {size : Nat} (hu : P.underlying t = some (.slice e)) (hok : okT P e = true) (hsz : P.cellsOf e = size) (b o len c l : Nat) (kd : IntKind) (hl : l ≤ len) :
    sliceA P t (.slice b o len (.exact c)) (some (.int kd (.ofNat l))) none none = some (.slice b (if c = l then o else o + l * size) (len - l) (.exact (c - l))) := by
  simp only [sliceA, hu, hok, sliceEx, bndO, bnd, ble_t hl, Option.isSome, Bool.false_and, hsz]
  by_cases q : c = l
  · subst q; rw [Nat.beq_refl, if_pos rfl]
  · rw [beq_f q, if_neg q]
theorem sl_ex_h {t e : TypeId} (hu : P.underlying t = some (.slice e)) (hok : okT P e = true) (b o len c l : Nat) (kd : IntKind) (hl : l ≤ c) :
    sliceA P t (.slice b o len (.exact c)) none (some (.int kd (.ofNat l))) none = some (.slice b o l (.exact c)) := by
  simp only [sliceA, hu, hok, sliceEx, bndO, bnd, ble_t hl, Option.isSome, Option.isNone, Bool.and_false, Nat.sub_zero, Nat.zero_mul, Nat.add_zero]
  cases Nat.beq c 0 <;> rfl
theorem sl_op_l {t e : TypeId} {size : Nat} (hu : P.underlying t = some (.slice e)) (hok : okT P e = true) (hsz : P.cellsOf e = size) (b o len i l : Nat) (kd : IntKind) (hl : l < len) :
    sliceA P t (.slice b o len (.opn i)) (some (.int kd (.ofNat l))) none none = some (.slice b (o + l * size) (len - l) (.opn (i + l))) := by
  simp only [sliceA, hu, hok, sliceOp, bndO, bnd, ble_t (show l ≤ len by omega), hsz]
  by_cases q : l = 0
  · subst q; rw [Nat.beq_refl]; simp
  · rw [beq_f q, ble_t (show l + 1 ≤ len by omega)]
theorem bi_cap_ex {t e : TypeId} (hu : P.underlying t = some (.slice e)) (b o n c : Nat) (ts : List TypeId) (xs : List AV) : builtinA P .cap (t :: ts) (.slice b o n (.exact c) :: xs) h = .val (.int .i64 (.ofNat c)) h := by
  simp only [builtinA, capA, hu]
theorem put_any {b o m : Nat} {t : T AV} {k : EK} {l : List AV} (hb : h.t.get b = some (.cells m t k false)) (ho : allOne l = true) (hm : o + l.length ≤ m) :
    ∃ t', h.put b o l = some { h with t := h.t.set b (some (.cells m t' k false)) } ∧ ∀ j, t'.get j = if o ≤ j ∧ j < o + l.length then l[j - o]? else t.get j := by
  unfold H.put
  rw [hb]
  simp only
  cases q : H.putRow t o l with
  | some t' => exact ⟨t', rfl, (putRow_get q).1⟩
  | none =>
    have : (allOne l && Nat.ble (o + lenL l) m) = true := by rw [Bool.and_eq_true, lenL_eq]; exact ⟨ho, ble_t hm⟩
    simp only [this]
    exact ⟨_, rfl, fun j => T.get_fill_at l t o j⟩
def RowB (h : H) (b m size ty : Nat) (cs : List AV) : Prop := b < h.nx ∧ ∃ t, h.t.get b = some (.cells m t ⟨size, ty⟩ false) ∧ ∀ j, j < cs.length → t.get j = cs[j]?
theorem RowB.row {b m size ty : Nat} {cs : List AV} (hr : RowB h b m size ty cs) {o n : Nat} (hn : o + n ≤ cs.length) (h0 : 0 < n) : h.row b o n = some ((cs.drop o).take n) := by
  obtain ⟨-, t, hg, ht⟩ := hr
  have hl : ((cs.drop o).take n).length = n := by rw [List.length_take, List.length_drop]; omega
  have hne : (cs.drop o).take n ≠ [] := fun e => by rw [e] at hl; simp at hl; omega
  have := row_ok (h := h) (b := b) (o := o) (cs := (cs.drop o).take n) (fun i hi => by
    unfold cellAt; rw [hg]
    simp only
    rw [ht _ (by omega), List.getElem?_take, if_pos (by omega), List.getElem?_drop]) hne
  rwa [hl] at this
theorem exW_xcopy {t e : TypeId} {ts : List TypeId} {size : Nat} {bd od nd : Nat} {cd : Cap} {bs os ns : Nat} {cs : Cap} {l : List AV} {md : Nat} {td : T AV} {kd : EK} {n : Nat} {xs : List AV} {K : AV → H → Prop} (hu : P.underlying t = some (.slice e)) (hok : okT P e = true) (hsz : P.cellsOf e = size)
    (hn : Nat.min ns nd = n) (hr : h.row bs os (n * size) = some l) (hb : h.t.get bd = some (.cells md td kd false)) (ho : allOne l = true) (hm : od + l.length ≤ md)
    (hk : ∀ t', (∀ j, t'.get j = if od ≤ j ∧ j < od + l.length then l[j - od]? else td.get j) → K (.int .i64 (.ofNat n)) { h with t := h.t.set bd (some (.cells md t' kd false)) }) :
    exW P (builtinA P .copy (t :: ts) (.slice bd od nd cd :: .slice bs os ns cs :: xs) h) K := by
  obtain ⟨t', hp, ht⟩ := put_any hb ho hm
  have : builtinA P .copy (t :: ts) (.slice bd od nd cd :: .slice bs os ns cs :: xs) h = .val (.int .i64 (.ofNat n)) { h with t := h.t.set bd (some (.cells md t' kd false)) } := by
    simp only [builtinA, hu, copyA, lenOfA, hn, srcA, hsz, hr, hok, hp]
  rw [this]
  exact hk t' ht
theorem exW_xplace {elem : TypeId} {size b o n q c m : Nat} {t : T AV} {k : EK} {new : List AV} {K : AV → H → Prop} (hq : n + q ≤ c) (hl : new.length = q * size) (hb : h.t.get b = some (.cells m t k false)) (hm : o + (n + q) * size ≤ m) (ho : allOne new = true)
    (hk : ∀ t', (∀ j, t'.get j = if o + n * size ≤ j ∧ j < o + n * size + new.length then new[j - (o + n * size)]? else t.get j) → K (.slice b o (n + q) (.exact c)) { h with t := h.t.set b (some (.cells m t' k false)) }) :
    exW P (appendN elem size (.slice b o n (.exact c)) q new h) K := by
  have e : (n + q) * size = n * size + q * size := Nat.add_mul _ _ _
  obtain ⟨t', hp, ht⟩ := put_any (o := o + n * size) hb ho (by omega)
  have e1 : Nat.beq (lenL new) (q * size) = true := by rw [lenL_eq, hl, Nat.beq_refl]
  have : appendN elem size (.slice b o n (.exact c)) q new h = .val (.slice b o (n + q) (.exact c)) { h with t := h.t.set b (some (.cells m t' k false)) } := by
    unfold appendN; simp only [e1, ble_t hq, hp]
  rw [this]
  exact hk t' ht
theorem exW_xgrow {elem : TypeId} {size b o n q c : Nat} {old new : List AV} {K : AV → H → Prop} (hq : c < n + q) (hl : new.length = q * size) (hs : n + q ≤ 4194304) (hr : h.row b o (n * size) = some old)
    (hk : K (.slice h.nx 0 (n + q) (.opn 0)) (h.grown none ⟨size, elem + 1⟩ (old ++ new))) : exW P (appendN elem size (.slice b o n (.exact c)) q new h) K := by
  have e1 : Nat.beq (lenL new) (q * size) = true := by rw [lenL_eq, hl, Nat.beq_refl]
  have e2 : small (n + q) = true := by unfold small; exact ble_t hs
  have : appendN elem size (.slice b o n (.exact c)) q new h = .val (.slice h.nx 0 (n + q) (.opn 0)) (h.grown none ⟨size, elem + 1⟩ (old ++ new)) := by
    unfold appendN; simp only [e1, ble_f hq, e2, hr]
  rw [this]; exact hk
theorem grown_none {k : EK} {l : List AV} (b : Nat) : (h.grown none k l).t.get b = if b = h.nx then some (.cells l.length (T.ofRow l) k false) else h.t.get b := by
  by_cases q : b = h.nx
  · subst q; rw [if_pos rfl, grownL_new]
  · rw [if_neg q]; unfold H.grown; simp only [T.get_set]; rw [if_neg q]
theorem grown_only {k : EK} {l : List AV} : Only h (h.grown none k l) [] := ⟨by rw [grownL_nx]; omega, fun b hb _ => by rw [grown_none, if_neg (by omega)]⟩
end
end
end Go.AX

namespace Go.AX
noncomputable section
open Go Go.RowKit
def absV (n : Nat) : Value → Option AV
  | .bool b => some (.bool b)
  | .int k m => some (.int k m)
  | .string s => some (.str (bytesOf s))
  | .pointer none => some .nilptr
  | .pointer (some ⟨B, o, none⟩) => if B < n then some (.ptr B o) else none
  | .slice none 0 0 => some .nilslice
  | .slice (some ⟨B, o, none⟩) len c => if B < n then some (.slice B o len (.exact c)) else none
  | .map none => some .nilmap
  | _ => none
def absPhi (n : Nat) : Phi := fun b => if b < n then some ⟨b, 0, 0⟩ else none
theorem absV_rel {n : Nat} {v : Value} {a : AV} (h : absV n v = some a) : VR (absPhi n) a v ∧ a.one = true := by
  unfold absV at h
  split at h
  all_goals first
    | (cases h; done)
    | (cases h; exact ⟨by simp, rfl⟩)
    | (split at h
       · rename_i hb
         cases h
         refine ⟨?_, rfl⟩
         first
         | (rw [VR_ptr]; exact ⟨⟨_, 0, 0⟩, by unfold absPhi; rw [if_pos hb], by simp⟩)
         | (rw [VR_sliceEx]; exact ⟨⟨_, 0, 0⟩, by unfold absPhi; rw [if_pos hb], by simp⟩)
       · cases h)
def fillO {α : Type} (t : T α) (k : Nat) : List (Option α) → T α
  | [] => t
  | x :: l => fillO (t.set k x) (k + 1) l
theorem fillO_get {α : Type} : ∀ (l : List (Option α)) (t : T α) (k j : Nat), (fillO t k l).get j = if k ≤ j ∧ j < k + l.length then (l[j - k]?).join else t.get j
  | [], t, k, j => by simp only [fillO, List.length_nil]; rw [if_neg (by omega)]
  | x :: l, t, k, j => by
    simp only [fillO, fillO_get l, T.get_set, List.length_cons]
    by_cases e : j = k
    · subst e; rw [if_neg (by omega), if_pos rfl, if_pos (by omega)]; simp
    · by_cases q : k + 1 ≤ j ∧ j < k + 1 + l.length
      · rw [if_pos q, if_pos (by omega), show j - k = (j - (k + 1)) + 1 by omega]; simp
      · rw [if_neg q, if_neg e, if_neg (by omega)]
theorem fillO_get0 {α : Type} (l : List (Option α)) (j : Nat) : (fillO (.e : T α) 0 l).get j = (l[j]?).join := by
  rw [fillO_get]
  by_cases q : j < l.length
  · rw [if_pos ⟨Nat.zero_le _, by omega⟩]; simp
  · rw [if_neg (by omega), List.getElem?_eq_none (by omega)]; rfl
def absObj (n : Nat) : Obj → Option AObj
  | .cells c _ _ => some (.cells c.size (fillO .e 0 (c.toList.map (absV n))) ⟨0, 0⟩ true)
  | _ => none
def absH (w : World) : H := ⟨fillO .e 0 (w.heap.toList.map (absObj w.heap.size)), w.heap.size, 0⟩
theorem absH_get (w : World) (b : Nat) : (absH w).t.get b = (w.heap[b]?).bind (absObj w.heap.size) := by
  unfold absH
  simp only [fillO_get0, List.getElem?_map, Array.getElem?_toList]
  cases w.heap[b]? <;> rfl
theorem absH_rel (w : World) : HR ⟨w.heap.size, fun _ => none⟩ (absPhi w.heap.size) (absH w) w := by
  have hlt : ∀ {b : Nat} {o : AObj}, (absH w).t.get b = some o → b < w.heap.size := fun {b o} hb => by
    rw [absH_get] at hb
    cases hx : w.heap[b]? with
    | none => rw [hx] at hb; cases hb
    | some x => exact (Array.getElem?_eq_some_iff.1 hx).1
  refine ⟨fun b o hb _ => ?_, fun b o b' o' L L' hb hb' h1 h2 e => ?_, fun b hb => ?_, fun b hb => absurd rfl hb, fun g hg => absurd hg (Nat.not_lt_zero _)⟩
  · have hl := hlt hb
    refine ⟨⟨b, 0, 0⟩, by unfold absPhi; rw [if_pos hl], ?_⟩
    rw [absH_get] at hb
    cases hx : w.heap[b]? with
    | none => rw [hx] at hb; cases hb
    | some x =>
      rw [hx] at hb
      cases x with
      | cells c t frz =>
        simp only [Option.bind_some, absObj] at hb
        cases hb
        refine ⟨c, t, frz, hx, by simp, fun i v hv => ?_, (fun h => by cases h), (fun h => absurd rfl h), (fun _ => rfl), (fun h => absurd rfl h), (fun _ h => by cases h)⟩
        rw [fillO_get0, List.getElem?_map, Array.getElem?_toList] at hv
        cases hc : c[i]? with
        | none => rw [hc] at hv; cases hv
        | some cv =>
          rw [hc] at hv
          have hv' : absV w.heap.size cv = some v := hv
          obtain ⟨h1, h2⟩ := absV_rel hv'
          exact ⟨(Array.getElem?_eq_some_iff.1 hc).1, h2, cv, by rw [Nat.zero_add]; exact hc, h1⟩
      | _ => cases hb
  · unfold absPhi at h1 h2
    rw [if_pos (hlt hb)] at h1
    rw [if_pos (hlt hb')] at h2
    cases h1; cases h2; exact e
  · unfold absPhi; rw [if_neg (by exact Nat.not_lt.2 hb)]
theorem absH_nx (w : World) : (absH w).nx = w.heap.size := rfl
theorem absH_cell {w : World} {b o : Nat} {v : Value} {a : AV} (hc : w.cell? ⟨b, o, none⟩ = some v) (ha : absV w.heap.size v = some a) : cellAt (absH w) b o = some a := by
  unfold World.cell? at hc
  unfold cellAt
  rw [absH_get]
  simp only at hc
  cases hx : w.heap[b]? with
  | none => rw [hx] at hc; cases hc
  | some x =>
    rw [hx] at hc
    cases x with
    | cells c t frz =>
      simp only [Option.bind_some, absObj, fillO_get0, List.getElem?_map, Array.getElem?_toList]
      have : c[o]? = some v := by simpa using hc
      rw [this]; exact ha
    | _ => simp at hc
theorem trodAll_below {P : Program} {K : Type} {enc : TypeId × Value → K} {W W' : World} (hl : laidOutB P = true) (hb : Below W.heap.size W W') : ∀ {ts : List TypeId} {vs : List Value} {ds : List (DataW K)} {ps : List MemPlace},
    (∀ t, t ∈ ts → P.readableRec t = true ∧ t < P.types.size) → DataW.TrodAll enc P W 0 (fun _ => true) true ts vs ds ps → (∀ p, p ∈ ps → p.block < W.heap.size) → ∀ sp : Nat → Bool, (∀ p, p ∈ ps → sp p.block = true) → DataW.TrodAll enc P W' 0 sp true ts vs ds ps
  | [], [], [], _, _, h, _, _, _ => h
  | t :: ts, v :: vs, d :: ds, ps, ht, h, hlt, sp, hsp => by
    obtain ⟨p, q, ⟨fuel, h1⟩, h2, rfl⟩ := h
    have ht' := ht t List.mem_cons_self
    refine ⟨p, q, ⟨fuel, DataW.trod_stays (kids_book hl ht'.1) (book_sized ht'.1) (fun h => by cases h) ⟨ht'.2, book_self t⟩ h1 (fun x hx => hb.same (hlt x (List.mem_append_left _ hx))) (fun x hx => hsp x (List.mem_append_left _ hx))⟩,
      trodAll_below hl hb (fun t h => ht t (List.mem_cons_of_mem _ h)) h2 (fun x hx => hlt x (List.mem_append_right _ hx)) sp (fun x hx => hsp x (List.mem_append_right _ hx)), rfl⟩
  | [], [], _ :: _, _, _, h, _, _, _ => h.elim
  | [], _ :: _, _, _, _, h, _, _, _ => h.elim
  | _ :: _, [], _, _, _, h, _, _, _ => h.elim
  | _ :: _, _ :: _, [], _, _, h, _, _, _ => h.elim
theorem wf_nat {k : IntKind} (hk : k.signed = false) {z : Int} (h : (Lit.int k z).wf = true) : ∃ n : Nat, z = Int.ofNat n ∧ n < modF k := by
  cases k <;> simp [IntKind.signed] at hk <;> simp [Lit.wf, IntKind.min, IntKind.max, IntKind.signed, IntKind.bits] at h <;>
    exact ⟨z.toNat, (Int.toNat_of_nonneg h.1).symm, by simp only [modF]; omega⟩
theorem wf_i64 {z : Int} (h : (Lit.int .i64 z).wf = true) : -9223372036854775808 ≤ z ∧ z ≤ 9223372036854775807 := by
  simpa [Lit.wf, IntKind.min, IntKind.max, IntKind.signed, IntKind.bits] using h
theorem ints_arg {P : Program} {K : Type} {enc : TypeId × Value → K} {w : World} {t e : TypeId} {k : IntKind} (ht : P.underlying t = some (.slice e)) (he : P.underlying e = some (.int k)) (hc : P.cellsOf e = 1)
    {r : Go.Reach} {b0 : Nat} {v : Value} (hval : Value.okWide P w r b0 t v) {d : DataW K} {ps : List MemPlace} (hd : DataW.Trod enc P w 0 (fun _ => true) true t v d ps) :
    ∃ (av : AV) (zs : List Int), VR (absPhi w.heap.size) av v ∧ SliceAt (absH w) av zs.length (zs.map (.int k)) ∧ (∀ z, z ∈ zs → (Lit.int k z).wf = true) ∧ zs.length ≤ maxLen := by
  obtain ⟨fuel, hf⟩ := hd
  obtain ⟨a0, len0, cap0, rfl⟩ := WideShapes.okWide_slice ht hval
  rcases ChangeShapes.open_ints ht he hc hf with ⟨h1, _⟩ | ⟨a, len, cap, zs, h1, _, h2, h2m, h3, _, h4, h5⟩
  · simp [Value.cells] at h1
    obtain ⟨rfl, rfl, rfl⟩ := h1
    exact ⟨.nilslice, [], by simp, .none, (fun z hz => absurd hz List.not_mem_nil), by simp⟩
  · simp [Value.cells] at h1
    obtain ⟨rfl, rfl, rfl⟩ := h1
    simp only [if_true] at h3
    by_cases hz : zs.length = 0
    · have hl : len0 = 0 := by omega
      subst hl
      exact ⟨.slice0, [], by simp, .zero, (fun z hz => absurd hz List.not_mem_nil), by simp⟩
    · have hcell := fun i (hi : i < zs.length) => h4 i hi
      have h0 := hcell 0 (by omega)
      have ha : a.spot = none ∧ a.block < w.heap.size := by
        have hb := World.block_lt_of_cell? w _ h0
        have : (a.add 0) = a := rfl
        rw [this] at h0 hb
        refine ⟨?_, hb⟩
        unfold World.cell? at h0
        cases hx : w.heap[a.block]? with
        | none => rw [hx] at h0; cases h0
        | some x =>
          rw [hx] at h0
          cases x with
          | cells c t f =>
            simp only at h0
            cases hs : a.spot with
            | none => rfl
            | some q => rw [hs] at h0; simp at h0
          | _ => cases h0
      obtain ⟨B, o, sp⟩ := a
      obtain ⟨rfl, hB⟩ := ha
      simp only at hB
      refine ⟨.slice B o len0 (.exact cap0), zs.take len0, ?_, ?_, fun z hz => h5 z (List.mem_of_mem_take hz), ?_⟩
      · rw [VR_sliceEx]; exact ⟨⟨B, 0, 0⟩, by unfold absPhi; rw [if_pos hB], by simp⟩
      · rw [List.length_take, Nat.min_eq_left (by omega)]
        refine .cell B o len0 _ _ hB (fun i hi => ?_)
        simp only [List.length_map, List.length_take] at hi
        have := hcell i (by omega)
        have e1 : (⟨B, o, none⟩ : Addr).add i = ⟨B, o + i, none⟩ := by
          unfold Addr.add
          split
          · rename_i q; subst q; rfl
          · rfl
        rw [e1] at this
        rw [absH_cell this rfl, List.getElem?_map, List.getElem?_take, if_pos (by omega)]
        rw [List.getD, List.getElem?_eq_getElem (by omega)]; rfl
      · rw [List.length_take]; omega
theorem nats_of {k : IntKind} (hk : k.signed = false) : ∀ {zs : List Int}, (∀ z, z ∈ zs → (Lit.int k z).wf = true) → ∃ ns : List Nat, zs.map (AV.int k) = ns.map (fun n => .int k (.ofNat n)) ∧ ns.length = zs.length ∧ ∀ n, n ∈ ns → n < modF k
  | [], _ => ⟨[], rfl, rfl, fun n hn => absurd hn List.not_mem_nil⟩
  | z :: zs, h => by
    obtain ⟨n, rfl, hn⟩ := wf_nat hk (h z List.mem_cons_self)
    obtain ⟨ns, e, hl, hb⟩ := nats_of hk (fun z hz => h z (List.mem_cons_of_mem _ hz))
    exact ⟨n :: ns, by simp only [List.map_cons, e], by simp only [List.length_cons, hl], fun m hm => by
      rcases List.mem_cons.1 hm with rfl | hm
      · exact hn
      · exact hb m hm⟩
theorem nats_arg {P : Program} {K : Type} {enc : TypeId × Value → K} {w : World} {t e : TypeId} {k : IntKind} (hk : k.signed = false) (ht : P.underlying t = some (.slice e)) (he : P.underlying e = some (.int k)) (hc : P.cellsOf e = 1)
    {r : Go.Reach} {b0 : Nat} {v : Value} (hval : Value.okWide P w r b0 t v) {d : DataW K} {ps : List MemPlace} (hd : DataW.Trod enc P w 0 (fun _ => true) true t v d ps) :
    ∃ (av : AV) (ns : List Nat), VR (absPhi w.heap.size) av v ∧ SliceAt (absH w) av ns.length (ns.map fun n => .int k (.ofNat n)) ∧ (∀ n, n ∈ ns → n < modF k) ∧ ns.length ≤ maxLen := by
  obtain ⟨av, zs, h1, h2, h3, h4⟩ := ints_arg ht he hc hval hd
  obtain ⟨ns, e, hl, hb⟩ := nats_of hk h3
  exact ⟨av, ns, h1, by rw [hl, ← e]; exact h2, hb, by rw [hl]; exact h4⟩
end
end Go.AX

namespace Go.AX
noncomputable section
open Go Go.RowKit
def fieldsOf (P : Program) (t : TypeId) : Array Field :=
  match P.underlying t with
  | some (.struct fs) => fs
  | _ => #[]
def fieldIn (fs : Array Field) (i : Nat) (ty : TypeId) (off : Nat) : Bool :=
  match fs[i]? with
  | some f => Nat.beq f.type ty && Nat.beq f.offset off
  | none => false
section
variable {P : Program} {K : Type} {enc : TypeId × Value → K} {w : World} {b : Nat} {sp : Nat → Bool} {hd : Bool}
theorem trod_field {t ty : TypeId} {fs : Array Field} {i off fuel : Nat} {cs : List Value} {x : DataW K × List MemPlace} (hu : P.underlying t = some (.struct fs)) (hf : fieldIn fs i ty off = true) (h : DataW.trod enc P w b sp hd fuel t cs = some x) :
    cs.length = P.cellsOf t ∧ ∃ n y, DataW.trod enc P w b sp hd n ty ((cs.drop off).take (P.cellsOf ty)) = some y := by
  obtain ⟨xs, n, _, _, hl, hlen, hx⟩ := DataW.trod_struct hu h
  unfold fieldIn at hf
  split at hf
  · rename_i f hfi
    rw [Bool.and_eq_true] at hf
    have e1 := Nat.eq_of_beq_eq_true hf.1
    have e2 := Nat.eq_of_beq_eq_true hf.2
    have := hx i f hfi
    rw [e1, e2] at this
    have hi : i < fs.size := (Array.getElem?_eq_some_iff.1 hfi).1
    rw [List.getElem?_eq_getElem (by omega)] at this
    exact ⟨hl, n, _, this⟩
  · cases hf
theorem trod_nat {t : TypeId} {k : IntKind} (hk : k.signed = false) (ht : P.underlying t = some (.int k)) {fuel : Nat} {cs : List Value} {x : DataW K × List MemPlace} (h : DataW.trod enc P w b sp hd fuel t cs = some x) : ∃ m : Nat, cs = [.int k (.ofNat m)] ∧ m < modF k := by
  obtain ⟨n, rfl, _, hw⟩ := DataW.trod_int ht h
  obtain ⟨m, rfl, hm⟩ := wf_nat hk hw
  exact ⟨m, rfl, hm⟩
def natV (p : IntKind × Nat) : Value := .int p.1 (.ofNat p.2)
def natA (p : IntKind × Nat) : AV := .int p.1 (.ofNat p.2)
theorem agg_nats {φ : Phi} (l : List (IntKind × Nat)) : VR φ (.agg (l.map natA)) (.agg (l.map natV).toArray) := by
  rw [VR_agg]
  refine ⟨_, rfl, ?_⟩
  have : ∀ l : List (IntKind × Nat), All2 (VR φ) (l.map natA) (l.map natV) := by
    intro l
    induction l with
    | nil => exact trivial
    | cons p l ih => exact ⟨by simp [natA, natV], ih⟩
  simpa using this l
end
theorem choose_list {α : Type} {p : Nat → α → Prop} : ∀ n, (∀ i, i < n → ∃ y, p i y) → ∃ l : List α, l.length = n ∧ ∀ i y, l[i]? = some y → p i y
  | 0, _ => ⟨[], rfl, fun i y h => by simp at h⟩
  | n + 1, h => by
    obtain ⟨l, q1, q2⟩ := choose_list n (fun i hi => h i (by omega))
    obtain ⟨y, hy⟩ := h n (by omega)
    refine ⟨l ++ [y], by simp [q1], fun i z hz => ?_⟩
    by_cases q : i < l.length
    · rw [List.getElem?_append_left q] at hz; exact q2 i z hz
    · rw [List.getElem?_append_right (by omega)] at hz
      have hi : i - l.length = 0 := by
        rcases Nat.eq_zero_or_pos (i - l.length) with e | e
        · exact e
        · rw [List.getElem?_eq_none (by simp; omega)] at hz; cases hz
      rw [hi] at hz; cases hz
      rw [show i = n by omega]; exact hy
theorem flat_at' {α β : Type} (f : α → List β) (k : Nat) : ∀ (l : List α), (∀ a, a ∈ l → (f a).length = k) → ∀ i j x, l[i]? = some x → j < k → (l.flatMap f)[i * k + j]? = (f x)[j]?
  | [], _, i, j, x, h, _ => by simp at h
  | a :: l, hf, 0, j, x, h, hj => by
    simp at h; subst h
    simp only [List.flatMap_cons, Nat.zero_mul, Nat.zero_add]
    rw [List.getElem?_append_left (by rw [hf a (by simp)]; exact hj)]
  | a :: l, hf, i + 1, j, x, h, hj => by
    have hfa := hf a (by simp)
    simp only [List.flatMap_cons]
    rw [List.getElem?_append_right (by rw [hfa, Nat.add_mul]; omega), hfa, show (i + 1) * k + j - k = i * k + j by rw [Nat.add_mul]; omega]
    exact flat_at' f k l (fun a ha => hf a (List.mem_cons_of_mem _ ha)) i j x (by simpa using h) hj
theorem flat_len' {α β : Type} (f : α → List β) (k : Nat) : ∀ (l : List α), (∀ a, a ∈ l → (f a).length = k) → (l.flatMap f).length = l.length * k
  | [], _ => by simp
  | a :: l, hf => by rw [List.flatMap_cons, List.length_append, hf a (by simp), flat_len' f k l (fun a ha => hf a (List.mem_cons_of_mem _ ha)), List.length_cons, Nat.add_mul]; omega
theorem rows_arg {α : Type} {P : Program} {K : Type} {enc : TypeId × Value → K} {w : World} {t e : TypeId} {size : Nat} (ht : P.underlying t = some (.slice e)) (hc : P.cellsOf e = size) (hs : 0 < size) (f : α → List (IntKind × Nat)) (ok : α → Prop)
    (hdec : ∀ (n : Nat) (cs : List Value) (x : DataW K × List MemPlace), DataW.trod enc P w 0 (fun _ => true) true n e cs = some x → ∃ a, ok a ∧ cs = (f a).map natV)
    {r : Go.Reach} {b0 : Nat} {v : Value} (hval : Value.okWide P w r b0 t v) {d : DataW K} {ps : List MemPlace} (hd : DataW.Trod enc P w 0 (fun _ => true) true t v d ps) :
    ∃ (av : AV) (l : List α), VR (absPhi w.heap.size) av v ∧ SliceAt (absH w) av l.length (l.flatMap fun a => (f a).map natA) ∧ (∀ a, a ∈ l → ok a) ∧ l.length ≤ maxLen ∧ ∀ a, a ∈ l → (f a).length = size := by
  obtain ⟨fuel, hf⟩ := hd
  obtain ⟨a0, len0, cap0, rfl⟩ := WideShapes.okWide_slice ht hval
  rcases Go.Deep.open_slice ht hf with ⟨h1, _⟩ | ⟨a, len, cap, m, n, D, Pl, h1, _, h2, h2m, hm, _, hx⟩
  · simp [Value.cells] at h1
    obtain ⟨rfl, rfl, rfl⟩ := h1
    exact ⟨.nilslice, [], by simp, .none, (fun z hz => absurd hz List.not_mem_nil), by simp, fun z hz => absurd hz List.not_mem_nil⟩
  · simp [Value.cells] at h1
    obtain ⟨rfl, rfl, rfl⟩ := h1
    simp only [if_true] at hm
    have hel : ∀ i, i < len0 → ∃ y, ok y ∧ w.cells? 0 (a.add (i * size)) size = some ((f y).map natV) := fun i hi => by
      obtain ⟨cs', q1, q2⟩ := hx i (by omega)
      obtain ⟨y, hy, rfl⟩ := hdec _ _ _ q2
      rw [hc] at q1
      exact ⟨y, hy, q1⟩
    obtain ⟨l, hll, hl⟩ := choose_list (p := fun i y => ok y ∧ w.cells? 0 (a.add (i * size)) size = some ((f y).map natV)) len0 hel
    have hok : ∀ y, y ∈ l → ok y := fun y hy => by
      obtain ⟨i, hi⟩ := List.mem_iff_getElem?.1 hy
      exact (hl i y hi).1
    have hsz : ∀ y, y ∈ l → (f y).length = size := fun y hy => by
      obtain ⟨i, hi⟩ := List.mem_iff_getElem?.1 hy
      obtain ⟨_, q, _⟩ := World.cells?_some (hl i y hi).2
      simpa using q
    by_cases hz : len0 = 0
    · obtain rfl : l = [] := List.length_eq_zero_iff.1 (by omega)
      subst hz
      exact ⟨.slice0, [], by simp, .zero, (fun z hz => absurd hz List.not_mem_nil), by simp, fun z hz => absurd hz List.not_mem_nil⟩
    · have hcell : ∀ i y j, l[i]? = some y → j < size → w.cell? (a.add (i * size + j)) = ((f y).map natV)[j]? := fun i y j hi hj => by
        obtain ⟨_, _, q⟩ := World.cells?_some (hl i y hi).2
        have := q j hj
        have e : (a.add (i * size)).add j = a.add (i * size + j) := by
          unfold Addr.add
          by_cases c1 : i * size = 0
          · simp [c1]
          · by_cases c2 : j = 0
            · simp [c2]
            · simp [c1, c2, Nat.add_assoc]
        rw [e] at this; exact this
      obtain ⟨y0, hy0⟩ : ∃ y, l[0]? = some y := ⟨_, List.getElem?_eq_getElem (by omega)⟩
      have h0 := hcell 0 y0 0 hy0 hs
      have hy0l := hsz y0 (List.mem_of_getElem? hy0)
      rw [List.getElem?_map, List.getElem?_eq_getElem (by omega)] at h0
      have ha : a.spot = none ∧ a.block < w.heap.size := by
        have hb := World.block_lt_of_cell? w _ h0
        have : (a.add (0 * size + 0)) = a := by simp [Addr.add]
        rw [this] at h0 hb
        refine ⟨?_, hb⟩
        unfold World.cell? at h0
        cases hx : w.heap[a.block]? with
        | none => rw [hx] at h0; cases h0
        | some x =>
          rw [hx] at h0
          cases x with
          | cells c t f =>
            simp only at h0
            cases hs : a.spot with
            | none => rfl
            | some q => rw [hs] at h0; simp at h0
          | _ => cases h0
      obtain ⟨B, o, sp⟩ := a
      obtain ⟨rfl, hB⟩ := ha
      simp only at hB
      refine ⟨.slice B o len0 (.exact cap0), l, ?_, ?_, hok, by omega, hsz⟩
      · rw [VR_sliceEx]; exact ⟨⟨B, 0, 0⟩, by unfold absPhi; rw [if_pos hB], by simp⟩
      · rw [hll]
        have hfl : ∀ y, y ∈ l → ((f y).map natA).length = size := fun y hy => by rw [List.length_map]; exact hsz y hy
        refine .cell B o len0 _ _ hB (fun i hi => ?_)
        rw [flat_len' _ size l hfl] at hi
        obtain ⟨q, r, rfl, hr⟩ : ∃ q r, i = q * size + r ∧ r < size := ⟨i / size, i % size, by rw [Nat.mul_comm]; exact (Nat.div_add_mod i size).symm, Nat.mod_lt _ hs⟩
        have hq : q < l.length := by
          rcases Nat.lt_or_ge q l.length with e | e
          · exact e
          · have := Nat.mul_le_mul_right size e; omega
        obtain ⟨y, hy⟩ : ∃ y, l[q]? = some y := ⟨_, List.getElem?_eq_getElem hq⟩
        have hc2 := hcell q y r hy hr
        have hyl := hsz y (List.mem_of_getElem? hy)
        have e1 : (⟨B, o, none⟩ : Addr).add (q * size + r) = ⟨B, o + (q * size + r), none⟩ := by
          unfold Addr.add
          split
          · rename_i q1; rw [q1]; rfl
          · rfl
        rw [e1, List.getElem?_map, List.getElem?_eq_getElem (by omega)] at hc2
        rw [flat_at' _ size l hfl q r y hy hr, absH_cell hc2 rfl, List.getElem?_map, List.getElem?_eq_getElem (by omega)]; rfl
theorem rows_argV {α : Type} {P : Program} {K : Type} {enc : TypeId × Value → K} {w : World} {t e : TypeId} {size : Nat} (ht : P.underlying t = some (.slice e)) (hc : P.cellsOf e = size) (hs : 0 < size) (f : α → List (Value × AV)) (ok : α → Prop) (hab : ∀ y p n, p ∈ f y → absV n p.1 = some p.2)
    (hdec : ∀ (n : Nat) (cs : List Value) (x : DataW K × List MemPlace), DataW.trod enc P w 0 (fun _ => true) true n e cs = some x → ∃ a, ok a ∧ cs = (f a).map (·.1))
    {r : Go.Reach} {b0 : Nat} {v : Value} (hval : Value.okWide P w r b0 t v) {d : DataW K} {ps : List MemPlace} (hd : DataW.Trod enc P w 0 (fun _ => true) true t v d ps) :
    ∃ (av : AV) (l : List α), VR (absPhi w.heap.size) av v ∧ SliceAt (absH w) av l.length (l.flatMap fun a => (f a).map (·.2)) ∧ (∀ a, a ∈ l → ok a) ∧ l.length ≤ maxLen ∧ ∀ a, a ∈ l → (f a).length = size := by
  obtain ⟨fuel, hf⟩ := hd
  obtain ⟨a0, len0, cap0, rfl⟩ := WideShapes.okWide_slice ht hval
  rcases Go.Deep.open_slice ht hf with ⟨h1, _⟩ | ⟨a, len, cap, m, n, D, Pl, h1, _, h2, h2m, hm, _, hx⟩
  · simp [Value.cells] at h1
    obtain ⟨rfl, rfl, rfl⟩ := h1
    exact ⟨.nilslice, [], by simp, .none, (fun z hz => absurd hz List.not_mem_nil), by simp, fun z hz => absurd hz List.not_mem_nil⟩
  · simp [Value.cells] at h1
    obtain ⟨rfl, rfl, rfl⟩ := h1
    simp only [if_true] at hm
    have hel : ∀ i, i < len0 → ∃ y, ok y ∧ w.cells? 0 (a.add (i * size)) size = some ((f y).map (·.1)) := fun i hi => by
      obtain ⟨cs', q1, q2⟩ := hx i (by omega)
      obtain ⟨y, hy, rfl⟩ := hdec _ _ _ q2
      rw [hc] at q1
      exact ⟨y, hy, q1⟩
    obtain ⟨l, hll, hl⟩ := choose_list (p := fun i y => ok y ∧ w.cells? 0 (a.add (i * size)) size = some ((f y).map (·.1))) len0 hel
    have hok : ∀ y, y ∈ l → ok y := fun y hy => by
      obtain ⟨i, hi⟩ := List.mem_iff_getElem?.1 hy
      exact (hl i y hi).1
    have hsz : ∀ y, y ∈ l → (f y).length = size := fun y hy => by
      obtain ⟨i, hi⟩ := List.mem_iff_getElem?.1 hy
      obtain ⟨_, q, _⟩ := World.cells?_some (hl i y hi).2
      simpa using q
    by_cases hz : len0 = 0
    · obtain rfl : l = [] := List.length_eq_zero_iff.1 (by omega)
      subst hz
      exact ⟨.slice0, [], by simp, .zero, (fun z hz => absurd hz List.not_mem_nil), by simp, fun z hz => absurd hz List.not_mem_nil⟩
    · have hcell : ∀ i y j, l[i]? = some y → j < size → w.cell? (a.add (i * size + j)) = ((f y).map (·.1))[j]? := fun i y j hi hj => by
        obtain ⟨_, _, q⟩ := World.cells?_some (hl i y hi).2
        have := q j hj
        have e : (a.add (i * size)).add j = a.add (i * size + j) := by
          unfold Addr.add
          by_cases c1 : i * size = 0
          · simp [c1]
          · by_cases c2 : j = 0
            · simp [c2]
            · simp [c1, c2, Nat.add_assoc]
        rw [e] at this; exact this
      obtain ⟨y0, hy0⟩ : ∃ y, l[0]? = some y := ⟨_, List.getElem?_eq_getElem (by omega)⟩
      have h0 := hcell 0 y0 0 hy0 hs
      have hy0l := hsz y0 (List.mem_of_getElem? hy0)
      rw [List.getElem?_map, List.getElem?_eq_getElem (by omega)] at h0
      have ha : a.spot = none ∧ a.block < w.heap.size := by
        have hb := World.block_lt_of_cell? w _ h0
        have : (a.add (0 * size + 0)) = a := by simp [Addr.add]
        rw [this] at h0 hb
        refine ⟨?_, hb⟩
        unfold World.cell? at h0
        cases hx : w.heap[a.block]? with
        | none => rw [hx] at h0; cases h0
        | some x =>
          rw [hx] at h0
          cases x with
          | cells c t f =>
            simp only at h0
            cases hs : a.spot with
            | none => rfl
            | some q => rw [hs] at h0; simp at h0
          | _ => cases h0
      obtain ⟨B, o, sp⟩ := a
      obtain ⟨rfl, hB⟩ := ha
      simp only at hB
      refine ⟨.slice B o len0 (.exact cap0), l, ?_, ?_, hok, by omega, hsz⟩
      · rw [VR_sliceEx]; exact ⟨⟨B, 0, 0⟩, by unfold absPhi; rw [if_pos hB], by simp⟩
      · rw [hll]
        have hfl : ∀ y, y ∈ l → ((f y).map (·.2)).length = size := fun y hy => by rw [List.length_map]; exact hsz y hy
        refine .cell B o len0 _ _ hB (fun i hi => ?_)
        rw [flat_len' _ size l hfl] at hi
        obtain ⟨q, r, rfl, hr⟩ : ∃ q r, i = q * size + r ∧ r < size := ⟨i / size, i % size, by rw [Nat.mul_comm]; exact (Nat.div_add_mod i size).symm, Nat.mod_lt _ hs⟩
        have hq : q < l.length := by
          rcases Nat.lt_or_ge q l.length with e | e
          · exact e
          · have := Nat.mul_le_mul_right size e; omega
        obtain ⟨y, hy⟩ : ∃ y, l[q]? = some y := ⟨_, List.getElem?_eq_getElem hq⟩
        have hc2 := hcell q y r hy hr
        have hyl := hsz y (List.mem_of_getElem? hy)
        have e1 : (⟨B, o, none⟩ : Addr).add (q * size + r) = ⟨B, o + (q * size + r), none⟩ := by
          unfold Addr.add
          split
          · rename_i q1; rw [q1]; rfl
          · rfl
        have hrl : r < (f y).length := by omega
        obtain ⟨p, hp⟩ : ∃ p, (f y)[r]? = some p := ⟨_, List.getElem?_eq_getElem hrl⟩
        rw [e1, List.getElem?_map, hp] at hc2
        rw [flat_at' _ size l hfl q r y hy hr, absH_cell hc2 (hab y p _ (List.mem_of_getElem? hp)), List.getElem?_map, hp]; rfl
end
end Go.AX

namespace Go.Proofs.YtakgpgamcmemgaaGreat.S
open Go Go.AX
noncomputable section
set_option maxRecDepth 100000
noncomputable abbrev P : Program := Tryz.prog
theorem cf3 (first cap args : List AV) (h : H) : callV P (.func 3 first cap) args h = .enter 3 (first ++ args ++ cap) h := callV_func 3 (by kernel_rfl) first cap args
theorem fa28_1 (b o : Nat) : fieldAddrA P 28 (.ptr b o) 1 = some (.ptr b (o + 2)) := by kernel_rfl
theorem fa26_0 (b o : Nat) : fieldAddrA P 26 (.ptr b o) 0 = some (.ptr b o) := by kernel_rfl
theorem ok9 : okT P 9 = true := by kernel_rfl
theorem ld9 (h : H) (b o : Nat) : loadV P h 9 b o = cellAt h b o := loadV_one (by kernel_rfl) h b o
theorem u9 : P.underlying 9 = some (.string) := by kernel_rfl
theorem ln9 (h : H) (s : List Nat) (ts : List TypeId) (xs : List AV) : builtinA P .len (9 :: ts) (.str s :: xs) h = .val (.int .i64 (.ofNat s.length)) h := bi_len_str u9 s ts xs
theorem fa26_1 (b o : Nat) : fieldAddrA P 26 (.ptr b o) 1 = some (.ptr b (o + 1)) := by kernel_rfl
theorem st9 (h : H) (v : AV) (hv : v.cells = [v]) (b o : Nat) : storeV P h 9 b o v = h.put b o [v] := storeV_one (by kernel_rfl) hv b o
theorem ok28 : okT P 28 = true := by kernel_rfl
theorem ld28 (h : H) (b o : Nat) : loadV P h 28 b o = aggO (seqO [cellAt h b o, cellAt h b (o + 1), cellAt h b (o + 2), cellAt h b (o + 3), cellAt h b (o + 4), cellAt h b (o + 5), cellAt h b (o + 6), cellAt h b (o + 7)]) := ld_agg (k := 7) (by kernel_rfl) (by kernel_rfl) b o
theorem cf4 (first cap args : List AV) (h : H) : callV P (.func 4 first cap) args h = .enter 4 (first ++ args ++ cap) h := callV_func 4 (by kernel_rfl) first cap args
theorem cf5 (first cap args : List AV) (h : H) : callV P (.func 5 first cap) args h = .enter 5 (first ++ args ++ cap) h := callV_func 5 (by kernel_rfl) first cap args
theorem cf6 (first cap args : List AV) (h : H) : callV P (.func 6 first cap) args h = .enter 6 (first ++ args ++ cap) h := callV_func 6 (by kernel_rfl) first cap args
theorem fa28_2 (b o : Nat) : fieldAddrA P 28 (.ptr b o) 2 = some (.ptr b (o + 7)) := by kernel_rfl
theorem ok4 : okT P 4 = true := by kernel_rfl
theorem ld4 (h : H) (b o : Nat) : loadV P h 4 b o = cellAt h b o := loadV_one (by kernel_rfl) h b o
theorem cf8 (first cap args : List AV) (h : H) : callV P (.func 8 first cap) args h = .enter 8 (first ++ args ++ cap) h := callV_func 8 (by kernel_rfl) first cap args
theorem fa28_0 (b o : Nat) : fieldAddrA P 28 (.ptr b o) 0 = some (.ptr b o) := by kernel_rfl
theorem fa24_0 (b o : Nat) : fieldAddrA P 24 (.ptr b o) 0 = some (.ptr b o) := by kernel_rfl
theorem ok22 : okT P 22 = true := by kernel_rfl
theorem ld22 (h : H) (b o : Nat) : loadV P h 22 b o = cellAt h b o := loadV_one (by kernel_rfl) h b o
theorem cf7 (first cap args : List AV) (h : H) : callV P (.func 7 first cap) args h = .enter 7 (first ++ args ++ cap) h := callV_func 7 (by kernel_rfl) first cap args
theorem fa24_1 (b o : Nat) : fieldAddrA P 24 (.ptr b o) 1 = some (.ptr b (o + 1)) := by kernel_rfl
theorem fa26_2 (b o : Nat) : fieldAddrA P 26 (.ptr b o) 2 = some (.ptr b (o + 2)) := by kernel_rfl
theorem fa26_4 (b o : Nat) : fieldAddrA P 26 (.ptr b o) 4 = some (.ptr b (o + 4)) := by kernel_rfl
theorem cf9 (first cap args : List AV) (h : H) : callV P (.func 9 first cap) args h = .enter 9 (first ++ args ++ cap) h := callV_func 9 (by kernel_rfl) first cap args
theorem cf10 (first cap args : List AV) (h : H) : callV P (.func 10 first cap) args h = .enter 10 (first ++ args ++ cap) h := callV_func 10 (by kernel_rfl) first cap args
theorem bs77_1_0 (p0_0 : AV) : buildSC P 77 1 [(0, [p0_0])] = some (22, [p0_0]) := by kernel_rfl
theorem cf14 (first cap args : List AV) (h : H) : callV P (.func 14 first cap) args h = .enter 14 (first ++ args ++ cap) h := callV_func 14 (by kernel_rfl) first cap args
theorem cv3_22 (j : IntKind) (n : Int) (h : H) : convR P 3 22 (.int j n) h = .val (.int .u64 (wrapF .u64 n)) h := conv_int (u := .int .i64) (by kernel_rfl) (by kernel_rfl) j n
theorem cv22_5 (j : IntKind) (n : Int) (h : H) : convR P 22 5 (.int j n) h = .val (.int .u8 (wrapF .u8 n)) h := conv_int (u := .int .u64) (by kernel_rfl) (by kernel_rfl) j n
theorem bs44_1_0 (p0_0 : AV) : buildSC P 44 1 [(0, [p0_0])] = some (5, [p0_0]) := by kernel_rfl
theorem cv3_5 (j : IntKind) (n : Int) (h : H) : convR P 3 5 (.int j n) h = .val (.int .u8 (wrapF .u8 n)) h := conv_int (u := .int .i64) (by kernel_rfl) (by kernel_rfl) j n
theorem u77 : P.underlying 77 = some (.slice 22) := by kernel_rfl
theorem ln77 (h : H) (b o n : Nat) (c : Cap) (ts : List TypeId) (xs : List AV) : builtinA P .len (77 :: ts) (.slice b o n c :: xs) h = .val (.int .i64 (.ofNat n)) h := bi_len_slice u77 b o n c ts xs
theorem lm77 (h : H) (ts : List TypeId) (xs : List AV) : builtinA P .len (77 :: ts) (.nilslice :: xs) h = .val (.int .i64 (.ofNat 0)) h := bi_len_nil u77 ts xs
theorem ia77 (b o len : Nat) (cap : Cap) (kd : IntKind) (i : Nat) : indexAddrA P 77 (.slice b o len cap) (.int kd (.ofNat i)) = if i < len then some (.ptr b (o + i * 1)) else none := indexAddr_slice (e := 22) (by kernel_rfl) (by kernel_rfl) (by kernel_rfl) b o len cap kd i
theorem z78 : zeroA P 78 = some (.agg [(.int .u8 (.ofNat 0)), (.int .u8 (.ofNat 0)), (.int .u8 (.ofNat 0)), (.int .u8 (.ofNat 0)), (.int .u8 (.ofNat 0)), (.int .u8 (.ofNat 0)), (.int .u8 (.ofNat 0)), (.int .u8 (.ofNat 0)), (.int .u8 (.ofNat 0))]) := by kernel_rfl
theorem ok5 : okT P 5 = true := by kernel_rfl
theorem st5 (h : H) (v : AV) (hv : v.cells = [v]) (b o : Nat) : storeV P h 5 b o v = h.put b o [v] := storeV_one (by kernel_rfl) hv b o
set_option maxRecDepth 100000 in
theorem F : ((((((type_of% @cf3) ∧ (type_of% @fa28_1)) ∧ ((type_of% @fa26_0) ∧ (type_of% @ok9))) ∧ (((type_of% @ld9) ∧ (type_of% @ln9)) ∧ ((type_of% @fa26_1) ∧ ((type_of% @st9) ∧ (type_of% @ok28))))) ∧ ((((type_of% @ld28) ∧ (type_of% @cf4)) ∧ ((type_of% @cf5) ∧ ((type_of% @cf6) ∧ (type_of% @fa28_2)))) ∧ (((type_of% @ok4) ∧ (type_of% @ld4)) ∧ ((type_of% @cf8) ∧ ((type_of% @fa28_0) ∧ (type_of% @fa24_0)))))) ∧ (((((type_of% @ok22) ∧ (type_of% @ld22)) ∧ ((type_of% @cf7) ∧ ((type_of% @fa24_1) ∧ (type_of% @fa26_2)))) ∧ (((type_of% @fa26_4) ∧ (type_of% @cf9)) ∧ ((type_of% @cf10) ∧ ((type_of% @bs77_1_0) ∧ (type_of% @cf14))))) ∧ ((((type_of% @cv3_22) ∧ (type_of% @cv22_5)) ∧ ((type_of% @bs44_1_0) ∧ ((type_of% @cv3_5) ∧ (type_of% @ln77)))) ∧ (((type_of% @lm77) ∧ (type_of% @ia77)) ∧ ((type_of% @z78) ∧ ((type_of% @ok5) ∧ (type_of% @st5))))))) :=
  ⟨⟨⟨⟨⟨@cf3, @fa28_1⟩, ⟨@fa26_0, @ok9⟩⟩, ⟨⟨@ld9, @ln9⟩, ⟨@fa26_1, ⟨@st9, @ok28⟩⟩⟩⟩, ⟨⟨⟨@ld28, @cf4⟩, ⟨@cf5, ⟨@cf6, @fa28_2⟩⟩⟩, ⟨⟨@ok4, @ld4⟩, ⟨@cf8, ⟨@fa28_0, @fa24_0⟩⟩⟩⟩⟩, ⟨⟨⟨⟨@ok22, @ld22⟩, ⟨@cf7, ⟨@fa24_1, @fa26_2⟩⟩⟩, ⟨⟨@fa26_4, @cf9⟩, ⟨@cf10, ⟨@bs77_1_0, @cf14⟩⟩⟩⟩, ⟨⟨⟨@cv3_22, @cv22_5⟩, ⟨@bs44_1_0, ⟨@cv3_5, @ln77⟩⟩⟩, ⟨⟨@lm77, @ia77⟩, ⟨@z78, ⟨@ok5, @st5⟩⟩⟩⟩⟩⟩
theorem V {a b : Prop} (x : a) (y : b) : a ∧ b := ⟨x, y⟩
theorem rN {p q r : Prop} (hq : q) (fs : r) (f : r → q → p := by intro fs hq; (repeat' (first | ((with_reducible refine st1 ?_); (conv => whnf); (with_reducible refine ⟨?_⟩)) | ((with_reducible refine retW_intro rfl ?_); (conv => arg 2; whnf)) | ((with_reducible first | refine iB ?_ ?_ | refine gWt ?_ ?_ | refine gWf ?_ ?_) <;> intro hb <;> (try simp only [hb])) | (simp only [B, F, Nat.reduceLT, Nat.reduceLeDiff, Nat.reduceEqDiff, Nat.reduceAdd, Nat.reduceMul, Nat.reduceSub, ↓reduceIte, eq_self, fs]))); exact hq) : p := f fs hq
theorem rN0 {p q : Prop} (hq : q) (f : q → p := by intro hq; (repeat' (first | ((with_reducible refine st1 ?_); (conv => whnf); (with_reducible refine ⟨?_⟩)) | ((with_reducible refine retW_intro rfl ?_); (conv => arg 2; whnf)) | ((with_reducible first | refine iB ?_ ?_ | refine gWt ?_ ?_ | refine gWf ?_ ?_) <;> intro hb <;> (try simp only [hb])) | (simp only [B, F, Nat.reduceLT, Nat.reduceLeDiff, Nat.reduceEqDiff, Nat.reduceAdd, Nat.reduceMul, Nat.reduceSub, ↓reduceIte, eq_self]))); exact hq) : p := f hq
theorem rT {p q r : Prop} (hq : q) (fs : r) (f : r → q → p := by intro fs hq; (repeat' (first | ((with_reducible refine st1 ?_); (conv => whnf); (with_reducible refine ⟨?_⟩)) | ((with_reducible refine st_dw ?_ rfl rfl ?_ ?_); exact rfl; kernel_rfl; (conv => arg 5; whnf); (conv => arg 3; whnf)) | ((with_reducible refine retW_intro rfl ?_); (conv => arg 2; whnf)) | ((with_reducible first | refine iB ?_ ?_ | refine gWt ?_ ?_ | refine gWf ?_ ?_ | refine gXt ?_ ?_ | refine gXf ?_ ?_) <;> intro hb <;> (try simp only [hb])) | ((with_reducible show drawI _ _ _ _ _ _ _ _ _); first | ((with_reducible refine kI_rd ?_ ?_); exact rfl) | ((with_reducible apply kI_rg); exact rfl; exact rfl) | ((with_reducible refine kI_cv ?_ ?_ ?_); exact rfl; kernel_rfl) | ((with_reducible apply kI_al); exact rfl; exact rfl) | ((with_reducible refine kI_ex ?_ ?_ ?_ ?_ ?_); exact rfl; kernel_rfl; exact rfl) | ((with_reducible apply kI_eg); exact rfl; kernel_rfl; exact rfl) | ((with_reducible refine kI_nl ?_ ?_))) | ((with_reducible show eOk _ _ _ _ _ _); first | (exact eok_nil) | (refine ke_rd ?_ ?_ ?_; exact rfl) | (apply ke_rg; exact rfl; exact rfl) | (refine ke_cv ?_ ?_ ?_ ?_; exact rfl; kernel_rfl) | (apply ke_fl; exact rfl) | (apply ke_al; exact rfl; exact rfl)) | ((with_reducible refine freshIs_new ?_); kernel_rfl) | (simp only [B, xB, F, Nat.reduceLT, Nat.reduceLeDiff, Nat.reduceEqDiff, Nat.reduceAdd, Nat.reduceMul, Nat.reduceSub, ↓reduceIte, eq_self, fs]))); exact hq) : p := f fs hq
theorem rT0 {p q : Prop} (hq : q) (f : q → p := by intro hq; (repeat' (first | ((with_reducible refine st1 ?_); (conv => whnf); (with_reducible refine ⟨?_⟩)) | ((with_reducible refine st_dw ?_ rfl rfl ?_ ?_); exact rfl; kernel_rfl; (conv => arg 5; whnf); (conv => arg 3; whnf)) | ((with_reducible refine retW_intro rfl ?_); (conv => arg 2; whnf)) | ((with_reducible first | refine iB ?_ ?_ | refine gWt ?_ ?_ | refine gWf ?_ ?_ | refine gXt ?_ ?_ | refine gXf ?_ ?_) <;> intro hb <;> (try simp only [hb])) | ((with_reducible show drawI _ _ _ _ _ _ _ _ _); first | ((with_reducible refine kI_rd ?_ ?_); exact rfl) | ((with_reducible apply kI_rg); exact rfl; exact rfl) | ((with_reducible refine kI_cv ?_ ?_ ?_); exact rfl; kernel_rfl) | ((with_reducible apply kI_al); exact rfl; exact rfl) | ((with_reducible refine kI_ex ?_ ?_ ?_ ?_ ?_); exact rfl; kernel_rfl; exact rfl) | ((with_reducible apply kI_eg); exact rfl; kernel_rfl; exact rfl) | ((with_reducible refine kI_nl ?_ ?_))) | ((with_reducible show eOk _ _ _ _ _ _); first | (exact eok_nil) | (refine ke_rd ?_ ?_ ?_; exact rfl) | (apply ke_rg; exact rfl; exact rfl) | (refine ke_cv ?_ ?_ ?_ ?_; exact rfl; kernel_rfl) | (apply ke_fl; exact rfl) | (apply ke_al; exact rfl; exact rfl)) | ((with_reducible refine freshIs_new ?_); kernel_rfl) | (simp only [B, xB, F, Nat.reduceLT, Nat.reduceLeDiff, Nat.reduceEqDiff, Nat.reduceAdd, Nat.reduceMul, Nat.reduceSub, ↓reduceIte, eq_self]))); exact hq) : p := f hq
theorem sT {p : Prop} (h : p := by first | (simp only [B, xB, F, Nat.reduceLT, Nat.reduceLeDiff, Nat.reduceEqDiff, Nat.reduceAdd, Nat.reduceMul, Nat.reduceSub, ↓reduceIte, eq_self]; done) | (simp only [B, xB, F, Nat.reduceLT, Nat.reduceLeDiff, Nat.reduceEqDiff, Nat.reduceAdd, Nat.reduceMul, Nat.reduceSub, ↓reduceIte, eq_self]; with_reducible assumption)) : p := h
abbrev M64 : Nat := 18446744073709551616
def Og (h h' : H) (S : List Nat) : Prop := Only h h' S ∧ h'.g = h.g
theorem Og.refl (h : H) (S : List Nat) : Og h h S := ⟨Only.refl _ _, rfl⟩
theorem Og.t {h h1 h2 : H} (a : Og h h1 []) (b : Og h1 h2 []) : Og h h2 [] := ⟨⟨Nat.le_trans a.1.1 b.1.1, fun c hc hn => (b.1.2 c (Nat.lt_of_lt_of_le hc a.1.1) (by simp)).trans (a.1.2 c hc (by simp))⟩, b.2.trans a.2⟩
theorem g_sts (h : H) (b o : Nat) (l : List AV) : (h.sts b o l).g = h.g := by unfold H.sts; split <;> rfl
theorem Og.new {h h1 : H} {S : List Nat} (a : Og h h1 S) (t : TypeId) (l : List AV) : Og h (h1.newCells t l) S := ⟨a.1.new t l, a.2⟩
theorem Og.sts {h h1 : H} {S : List Nat} {b o : Nat} {l : List AV} (a : Og h h1 S) (hb : b ∈ S ∨ h.nx ≤ b) : Og h (h1.sts b o l) S := ⟨a.1.sts hb, (g_sts _ _ _ _).trans a.2⟩
def SaysG (h : H) (r : AV) (v : AV) (h' : H) : Prop := v = r ∧ Og h h' []
def hexD (n : Nat) : Nat := if n < 10 then 48 + n else 87 + n
def hexL (n : Nat) : List Nat := if n < 16 then [hexD n] else hexL (n / 16) ++ [hexD (n % 16)]
termination_by n
decreasing_by omega
theorem hexL_lt {n : Nat} (h : n < 16) : hexL n = [hexD n] := by rw [hexL, if_pos h]
theorem hexL_ge {n : Nat} (h : ¬ n < 16) : hexL n = hexL (n / 16) ++ [hexD (n % 16)] := by conv => lhs; rw [hexL, if_neg h]
theorem hexL_len : ∀ (k n : Nat), n < 16 ^ (k + 1) → (hexL n).length ≤ k + 1
  | 0, n, h => by rw [hexL_lt (by simpa using h)]; simp
  | k + 1, n, h => by
    by_cases q : n < 16
    · rw [hexL_lt q]; simp
    · rw [hexL_ge q]
      have := hexL_len k (n / 16) (by rw [Nat.pow_succ] at h; omega)
      simp; omega
theorem hexL_pos (n : Nat) : 0 < (hexL n).length := by
  by_cases q : n < 16
  · rw [hexL_lt q]; simp
  · rw [hexL_ge q]; simp
def digs : List Nat := [48, 49, 50, 51, 52, 53, 54, 55, 56, 57, 97, 98, 99, 100, 101, 102, 103, 104, 105, 106, 107, 108, 109, 110, 111, 112, 113, 114, 115, 116, 117, 118, 119, 120, 121, 122]
theorem digs_at : ∀ {k : Nat}, k < 16 → digs[k]? = some (hexD k) := by decide
section
variable {h : H} {t : TypeId} {x y : Operand}
theorem b_and (k : IntKind) (m n : Int) : binR P h .and t x y (.int k m) (.int k n) = .val (.int k (wrapF k (.ofNat (Nat.land (low k m) (low k n))))) h := by simp only [binR, apartA, binA, eqB_self, intB, optV, forceInt_eq]
theorem b_shr (k j : IntKind) (m : Int) (n : Nat) : binR P h .shr t x y (.int k m) (.int j (.ofNat n)) = .val (.int k (m.fdiv (Int.ofNat (2 ^ min n k.bits)))) h := by simp only [binR, apartA, binA, shiftB, optV, forceInt_eq]
def negR (v : AV) (h : H) : R :=
  match v with
  | .int k n => .val (.int k (wrapF k (0 - n))) h
  | _ => .fail
theorem negR_int (k : IntKind) (n : Int) : negR (.int k n) h = .val (.int k (wrapF k (0 - n))) h := id rfl
theorem ex_neg {tm : T AV} (x : Operand) : execA P tm h (.unOp .neg t x) = ob (evalA tm x) fun v => negR v h := by
  simp only [execA]
  cases evalA tm x with
  | none => rfl
  | some v => cases v <;> first | (simp only [unA, forceInt_eq, optV, ob, negR]; done) | rfl
theorem evalG_glob {tm : T AV} {g : Nat} (hg : g < h.g) : evalG tm h (.global g) = some (.ptr g 0) := by
  have : Nat.blt g h.g = true := by rw [Nat.blt_eq]; exact hg
  simp only [evalG, this]
end
theorem u64_nat {a : Nat} (hs : a < 18446744073709551616) : wrapF .u64 (Int.ofNat a) = Int.ofNat a := by
  have := u64_add (a := a) (b := 0) (by omega)
  simpa using this
theorem and15 {u : Nat} (hu : u < M64) : wrapF .u64 (.ofNat (Nat.land (low .u64 (.ofNat u)) (low .u64 (.ofNat 15)))) = .ofNat (u % 16) := by
  have h1 : low .u64 (.ofNat u) = u := by
    unfold low
    show (Int.emod (u : Int) ((modF .u64 : Nat) : Int)).toNat = u
    have : ((u : Int)).emod ((modF .u64 : Nat) : Int) = ((u % modF .u64 : Nat) : Int) := rfl
    rw [this, Int.toNat_natCast]; exact Nat.mod_eq_of_lt hu
  have h2 : low .u64 (.ofNat 15) = 15 := rfl
  rw [h1, h2]
  have h3 : Nat.land u 15 = u % 16 := Nat.and_two_pow_sub_one_eq_mod u 4
  rw [h3]
  exact u64_nat (by have : u % 16 < 16 := Nat.mod_lt _ (by omega); omega)
theorem shr4 (u : Nat) : (Int.ofNat u).fdiv (Int.ofNat (2 ^ min 4 IntKind.u64.bits)) = Int.ofNat (u / 16) := by
  have : (2 ^ min 4 IntKind.u64.bits : Nat) = 16 := rfl
  rw [this]; exact (Int.ofNat_fdiv u 16).symm
end
end Go.Proofs.YtakgpgamcmemgaaGreat.S

namespace Go.Proofs.YtakgpgamcmemgaaGreat.S
open Go Go.AX
noncomputable section
set_option maxRecDepth 100000
theorem u9a : P.underlying 9 = some .string := by kernel_rfl
theorem co5 : P.cellsOf 5 = 1 := by kernel_rfl
theorem kc {h h' : H} {S : List Nat} {b i : Nat} {v : AV} (c : cellAt h b i = some v) (o : Og h h' S) (hb : b < h.nx) (hn : b ∉ S) : cellAt h' b i = some v := by rw [cellAt_of_get (o.1.2 b hb hn)]; exact c
theorem kw {h h' : H} {S : List Nat} {b : Nat} (c : wrAt h b = true) (o : Og h h' S) (hb : b < h.nx) (hn : b ∉ S) : wrAt h' b = true := by rw [wrAt_of_get (o.1.2 b hb hn)]; exact c
theorem all_bytes : ∀ {l : List Nat}, (∀ c, c ∈ l → c < 256) → bytesA (l.map fun c => .int .u8 (.ofNat c)) = some l := by
  intro l hl
  have h1 : ∀ l : List Nat, (∀ c, c ∈ l → c < 256) → allByte (l.map fun c => AV.int .u8 (.ofNat c)) = true ∧ (l.map fun c => AV.int .u8 (.ofNat c)).map AX.byteOf = l := by
    intro l
    induction l with
    | nil => intro _; exact ⟨rfl, rfl⟩
    | cons a l ih =>
      intro hl
      obtain ⟨i1, i2⟩ := ih (fun c hc => hl c (List.mem_cons_of_mem _ hc))
      have ha := hl a (by simp)
      refine ⟨?_, ?_⟩
      · have hb : isByte (AV.int .u8 (.ofNat a)) = true := rfl
        show (match isByte (AV.int .u8 (.ofNat a)) with | true => allByte (l.map fun c => AV.int .u8 (.ofNat c)) | false => false) = true
        rw [hb]; exact i1
      · rw [List.map_cons, List.map_cons, i2]
        show (a % 256) :: l = a :: l
        rw [Nat.mod_eq_of_lt ha]
  unfold bytesA
  rw [(h1 l hl).1]
  simp only [(h1 l hl).2]
theorem u75a : P.underlying 44 = some (.slice 5) := by kernel_rfl
theorem conv_bytes {h : H} {b o n : Nat} {cap : Cap} {l : List Nat} (hl : l.length = n) (h0 : l ≠ []) (hc : ∀ j, j < l.length → cellAt h b (o + j) = (l[j]?).map fun c => .int .u8 (.ofNat c)) (hb : ∀ c, c ∈ l → c < 256) : convR P 44 9 (.slice b o n cap) h = .val (.str l) h := by
  have hr : h.row b o n = some (l.map fun c => .int .u8 (.ofNat c)) := by
    have := row_ok (h := h) (b := b) (o := o) (cs := l.map fun c => .int .u8 (.ofNat c)) (fun j hj => by rw [hc j (by simpa using hj), List.getElem?_map]) (by simpa using h0)
    rwa [List.length_map, hl] at this
  unfold convR
  simp only [u75a, u9a]
  unfold convertA
  have u5a : P.underlying 5 = some (.int .u8) := by kernel_rfl
  simp only [u75a, u9a, u5a, hr, all_bytes hb]
theorem b_addS {a b : List Nat} (hl : a.length + b.length ≤ 1000000) (h : H) (t : TypeId) (x y : Operand) : binR P h .add t x y (.str a) (.str b) = .val (.str (a ++ b)) h := by
  have : Nat.ble (a.length + b.length) 1099511627776 = true := by rw [Nat.ble_eq]; omega
  simp only [binR, apartA, binA, strB, lenL_eq, this, optV]
end
end Go.Proofs.YtakgpgamcmemgaaGreat.S

namespace Go.Proofs.YtakgpgamcmemgaaGreat.S
open Go Go.AX
noncomputable section
set_option maxRecDepth 100000
def b256 (n : Nat) : List Nat := if h : n = 0 then [] else b256 (n / 256) ++ [n % 256]
termination_by n
decreasing_by omega
theorem b256_0 : b256 0 = [] := by rw [b256]; simp
theorem b256_s {n : Nat} (h : n ≠ 0) : b256 n = b256 (n / 256) ++ [n % 256] := by conv => lhs; rw [b256, dif_neg h]
theorem b256_len : ∀ (k n : Nat), n < 256 ^ k → (b256 n).length ≤ k
  | 0, n, h => by have : n = 0 := by simpa using h
                  rw [this, b256_0]; simp
  | k + 1, n, h => by
    by_cases q : n = 0
    · rw [q, b256_0]; simp
    · rw [b256_s q]
      have := b256_len k (n / 256) (by rw [Nat.pow_succ] at h; omega)
      simp; omega
theorem b256_byte (n : Nat) : ∀ c, c ∈ b256 n → c < 256 := by
  induction n using Nat.strongRecOn with
  | ind n ih =>
    by_cases q : n = 0
    · rw [q, b256_0]; simp
    · rw [b256_s q]
      intro c hc
      rcases List.mem_append.1 hc with h | h
      · exact ih (n / 256) (by omega) c h
      · rw [List.mem_singleton] at h; omega
theorem b256_pos {n : Nat} (h : n ≠ 0) : 0 < (b256 n).length := by rw [b256_s h]; simp
def encN (n : Nat) : List Nat := if n < 248 then [n] else (247 + (b256 n).length) :: b256 n
theorem encN_len {n : Nat} (h : n < M64) : (encN n).length ≤ 9 := by
  unfold encN
  split
  · simp
  · have := b256_len 8 n h
    simp; omega
theorem encN_byte {n : Nat} (h : n < M64) : ∀ c, c ∈ encN n → c < 256 := by
  unfold encN
  have := b256_len 8 n h
  split
  · intro c hc; rw [List.mem_singleton] at hc; omega
  · intro c hc
    rcases List.mem_cons.1 hc with q | q
    · omega
    · exact b256_byte n c q
theorem u80a : P.underlying 78 = some (.array 9 5) := by kernel_rfl
theorem ia80 (b : Nat) (kd : IntKind) (i : Nat) (hi : i < 9) : indexAddrA P 78 (.ptr b 0) (.int kd (.ofNat i)) = some (.ptr b i) := by
  have hb : Nat.blt i 9 = true := by rw [Nat.blt_eq]; exact hi
  unfold indexAddrA
  simp only [u80a, hb, show okT P 5 = true from ok5, co5, Bool.true_and, Nat.zero_add, Nat.mul_one]
theorem shr8 (u : Nat) : (Int.ofNat u).fdiv (Int.ofNat (2 ^ min 8 IntKind.u64.bits)) = Int.ofNat (u / 256) := by
  have : (2 ^ min 8 IntKind.u64.bits : Nat) = 256 := rfl
  rw [this]; exact (Int.ofNat_fdiv u 256).symm
theorem u8_mod (n : Nat) : wrapF .u8 (Int.ofNat n) = Int.ofNat (n % 256) := by
  show ((n : Int)) % 256 = ((n % 256 : Nat) : Int)
  omega
structure PuI (hx : H) (b n : Nat) (s : List Nat) (sb : Nat) (cap : Cap) (m : Nat) (ds : List Nat) (tm : T AV) (h : H) (i : Nat) (suf : List Nat) : Prop where
  ds : ds = []
  le : m < M64
  hs : b256 n = b256 m ++ suf
  ls : suf.length + i = 9
  hl : (b256 m).length + 1 ≤ i
  t0 : tm.get 0 = some (.str s)
  t6 : tm.get 6 = some (.int .u64 (.ofNat m))
  t7 : tm.get 7 = some (.ptr b 0)
  t8 : tm.get 8 = some (.int .i64 (.ofNat i))
  t9 : tm.get 9 = some (.slice sb 0 1 cap)
  t10 : tm.get 10 = some (.int .i64 (.ofNat 1))
  t11 : tm.get 11 = some (.int .i64 (.ofNat 0))
  oo : Og hx h [b]
  wr : wrAt h b = true
  c0 : ∀ j, j < 9 → ∃ v, cellAt h b j = some v
  cs : ∀ j, j < suf.length → cellAt h b (i + j) = (suf[j]?).map fun c => .int .u8 (.ofNat c)
structure PnI (h0 : H) (b n : Nat) (s : List Nat) (cap : Cap) (m : Nat) (ds : List Nat) (tm : T AV) (h : H) (i : Nat) : Prop where
  ds : ds = []
  nn : m = 1 - i
  ii : i ≤ 1
  t0 : tm.get 0 = some (.str (if i = 0 then s else s ++ encN n))
  t9 : tm.get 9 = some (.slice b 0 1 cap)
  t10 : tm.get 10 = some (.int .i64 (.ofNat 1))
  t11 : tm.get 11 = some (.int .i64 (.ofNat i))
  oo : Og h0 h []
theorem putN (h0 : H) (b n : Nat) (s : List Nat) (cap : Cap) (hb : b < h0.nx) (hc : cellAt h0 b 0 = some (.int .u64 (.ofNat n))) (hn : n < M64) (hs : s.length ≤ 10000) : PushC P (.enter 14 [.str s, .slice b 0 1 cap] h0) (SaysG h0 (.str (s ++ encN n))) := by
  refine pushC_of_codeW (fn := Tryz.f14) (c := bodyC Tryz.f14) Tryz.func14 rfl ?_
  show codeW P 14 47 none _ _ _ _ _
  refine codeW_root ?_
  repeat' (first | ((with_reducible refine st1 ?_); (conv => whnf); (with_reducible refine ⟨?_⟩)) | ((with_reducible refine retW_intro rfl ?_); (conv => arg 2; whnf)) | ((with_reducible first | refine iB ?_ ?_ | refine gWt ?_ ?_ | refine gWf ?_ ?_) <;> intro hb <;> (try simp only [hb])) | (simp only [B, F, Nat.reduceLT, Nat.reduceLeDiff, Nat.reduceEqDiff, Nat.reduceAdd, Nat.reduceMul, Nat.reduceSub, ↓reduceIte, eq_self]))
  refine st_loop (fun m ds tm h => ∃ i, PnI h0 b n s cap m ds tm h i) 1 rfl ⟨0, rfl, rfl, by omega, by simp only [B, F, Nat.reduceLT, Nat.reduceLeDiff, Nat.reduceEqDiff, Nat.reduceAdd, Nat.reduceMul, Nat.reduceSub, ↓reduceIte, eq_self], by simp only [B, F, Nat.reduceLT, Nat.reduceLeDiff, Nat.reduceEqDiff, Nat.reduceAdd, Nat.reduceMul, Nat.reduceSub, ↓reduceIte, eq_self], by simp only [B, F, Nat.reduceLT, Nat.reduceLeDiff, Nat.reduceEqDiff, Nat.reduceAdd, Nat.reduceMul, Nat.reduceSub, ↓reduceIte, eq_self], by simp only [B, F, Nat.reduceLT, Nat.reduceLeDiff, Nat.reduceEqDiff, Nat.reduceAdd, Nat.reduceMul, Nat.reduceSub, ↓reduceIte, eq_self], Og.refl _ _⟩ (fun m ds tm h hI => ?_)
  obtain ⟨i, rfl, rfl, ii, t0, t9, t10, t11, oo⟩ := hI
  rcases (show i = 0 ∨ i = 1 by omega) with rfl | rfl
  · have c0 := kc hc oo hb (by simp)
    rw [if_pos rfl] at t0
    have w1 : wrapF .i64 (Int.ofNat 0 + Int.ofNat 1) = Int.ofNat 1 := by kernel_rfl
    by_cases hn8 : n < 248
    · have hlt : decide (n < 248) = true := decide_eq_true hn8
      have w8 : wrapF .u8 (Int.ofNat n) = Int.ofNat n := by rw [u8_mod, Nat.mod_eq_of_lt (by omega)]
      have he : encN n = [n] := by unfold encN; rw [if_pos hn8]
      rw [he]
      obtain ⟨h2, h2e⟩ : ∃ h2, h2 = h.newCells 5 [.int .u8 (.ofNat n)] := ⟨_, rfl⟩
      have o2 : Og h h2 [] := by rw [h2e]; exact (Og.refl _ _).new _ _
      have cv := conv_bytes (h := h2) (b := h.nx) (o := 0) (n := 1) (cap := .exact 1) (l := [n]) rfl (by simp) (fun j hj => by
        rw [h2e, cellAt_new, if_pos rfl, Nat.zero_add]
        match j, hj with
        | 0, _ => rfl) (fun c hc => by rw [List.mem_singleton] at hc; omega)
      have ad := fun h t x y => b_addS (a := s) (b := [n]) (by simp; omega) h t x y
      repeat' (first | ((with_reducible refine st1 ?_); (conv => whnf); (with_reducible refine ⟨?_⟩)) | ((with_reducible refine retW_intro rfl ?_); (conv => arg 2; whnf)) | ((with_reducible first | refine iB ?_ ?_ | refine gWt ?_ ?_ | refine gWf ?_ ?_) <;> intro hb <;> (try simp only [hb])) | (simp only [B, F, Nat.reduceLT, Nat.reduceLeDiff, Nat.reduceEqDiff, Nat.reduceAdd, Nat.reduceMul, Nat.reduceSub, ↓reduceIte, eq_self, t0, t9, t10, t11, c0, hlt, w8, ← h2e, cv, ad, w1]))
      exact ⟨0, by omega, 1, rfl, rfl, by omega, by rw [he]; simp only [B, F, Nat.reduceLT, Nat.reduceLeDiff, Nat.reduceEqDiff, Nat.reduceAdd, Nat.reduceMul, Nat.reduceSub, ↓reduceIte, eq_self], by simp only [B, F, Nat.reduceLT, Nat.reduceLeDiff, Nat.reduceEqDiff, Nat.reduceAdd, Nat.reduceMul, Nat.reduceSub, ↓reduceIte, eq_self, t9], by simp only [B, F, Nat.reduceLT, Nat.reduceLeDiff, Nat.reduceEqDiff, Nat.reduceAdd, Nat.reduceMul, Nat.reduceSub, ↓reduceIte, eq_self, t10], by simp only [B, F, Nat.reduceLT, Nat.reduceLeDiff, Nat.reduceEqDiff, Nat.reduceAdd, Nat.reduceMul, Nat.reduceSub, ↓reduceIte, eq_self], oo.t o2⟩
    · have hlt : decide (n < 248) = false := decide_eq_false hn8
      have hd8 : (b256 n).length ≤ 8 := b256_len 8 n hn
      have w2 : wrapF .u64 (Int.ofNat n) = Int.ofNat n := u64_nat hn
      obtain ⟨h2, h2e⟩ : ∃ h2, h2 = h.newCells 78 [.int .u8 (.ofNat 0), .int .u8 (.ofNat 0), .int .u8 (.ofNat 0), .int .u8 (.ofNat 0), .int .u8 (.ofNat 0), .int .u8 (.ofNat 0), .int .u8 (.ofNat 0), .int .u8 (.ofNat 0), .int .u8 (.ofNat 0)] := ⟨_, rfl⟩
      have o2 : Og h h2 [] := by rw [h2e]; exact (Og.refl _ _).new _ _
      have x2 : h2.nx = h.nx + 1 := by rw [h2e]; rfl
      have wr2 : wrAt h2 h.nx = true := by rw [h2e, wrAt_new, if_pos rfl]
      have c2 : ∀ j, j < 9 → ∃ v, cellAt h2 h.nx j = some v := fun j hj => by
        obtain ⟨v, hv⟩ : ∃ v, (List.replicate 9 (AV.int .u8 (.ofNat 0)))[j]? = some v := ⟨_, List.getElem?_eq_getElem (by simpa using hj)⟩
        exact ⟨v, by rw [h2e, cellAt_new, if_pos rfl]; exact hv⟩
      repeat' (first | ((with_reducible refine st1 ?_); (conv => whnf); (with_reducible refine ⟨?_⟩)) | ((with_reducible refine retW_intro rfl ?_); (conv => arg 2; whnf)) | ((with_reducible first | refine iB ?_ ?_ | refine gWt ?_ ?_ | refine gWf ?_ ?_) <;> intro hb <;> (try simp only [hb])) | (simp only [B, F, Nat.reduceLT, Nat.reduceLeDiff, Nat.reduceEqDiff, Nat.reduceAdd, Nat.reduceMul, Nat.reduceSub, ↓reduceIte, eq_self, t0, t9, t10, t11, c0, hlt, ← h2e]))
      refine st_loop (fun m ds tm h' => ∃ i suf, PuI h2 h.nx n s b cap m ds tm h' i suf) n rfl ⟨9, [], rfl, hn, by simp, rfl, by omega, by simp only [B, F, Nat.reduceLT, Nat.reduceLeDiff, Nat.reduceEqDiff, Nat.reduceAdd, Nat.reduceMul, Nat.reduceSub, ↓reduceIte, eq_self, t0], by simp only [B, F, Nat.reduceLT, Nat.reduceLeDiff, Nat.reduceEqDiff, Nat.reduceAdd, Nat.reduceMul, Nat.reduceSub, ↓reduceIte, eq_self], by simp only [B, F, Nat.reduceLT, Nat.reduceLeDiff, Nat.reduceEqDiff, Nat.reduceAdd, Nat.reduceMul, Nat.reduceSub, ↓reduceIte, eq_self], by simp only [B, F, Nat.reduceLT, Nat.reduceLeDiff, Nat.reduceEqDiff, Nat.reduceAdd, Nat.reduceMul, Nat.reduceSub, ↓reduceIte, eq_self], by simp only [B, F, Nat.reduceLT, Nat.reduceLeDiff, Nat.reduceEqDiff, Nat.reduceAdd, Nat.reduceMul, Nat.reduceSub, ↓reduceIte, eq_self, t9], by simp only [B, F, Nat.reduceLT, Nat.reduceLeDiff, Nat.reduceEqDiff, Nat.reduceAdd, Nat.reduceMul, Nat.reduceSub, ↓reduceIte, eq_self, t10], by simp only [B, F, Nat.reduceLT, Nat.reduceLeDiff, Nat.reduceEqDiff, Nat.reduceAdd, Nat.reduceMul, Nat.reduceSub, ↓reduceIte, eq_self, t11], Og.refl _ _, wr2, c2, fun j hj => by cases hj⟩ (fun m ds tm h3 hI => ?_)
      clear t0 t9 t10 t11
      obtain ⟨i, suf, rfl, hm, hs3, ls, hl3, t0, t6, t7, t8, t9, t10, t11, o3, wr3, c3, cs⟩ := hI
      have x3 := o3.1.1
      have wi : wrapF .i64 (Int.ofNat i - Int.ofNat 1) = .ofNat (i - 1) := i64_sub (by omega) (by omega)
      have ia := ia80 h.nx .i64 (i - 1) (by omega)
      obtain ⟨vo, hvo⟩ := c3 (i - 1) (by omega)
      by_cases hz : 0 < m
      · have d1 : decide (0 < m) = true := decide_eq_true hz
        have sh := shr8 m
        have w8 := u8_mod m
        have hge := b256_s (n := m) (by omega)
        have hlm : (b256 m).length = (b256 (m / 256)).length + 1 := by rw [hge]; simp
        obtain ⟨h4, h4e⟩ : ∃ h4, h4 = h3.sts h.nx (i - 1) [.int .u8 (.ofNat (m % 256))] := ⟨_, rfl⟩
        have hca : ∀ j, cellAt h4 h.nx j = if j = i - 1 then some (.int .u8 (.ofNat (m % 256))) else cellAt h3 h.nx j := fun j => by
          rw [h4e, cellAt_sts wr3]
          by_cases q : j = i - 1
          · rw [if_pos ⟨rfl, by omega, by simp; omega⟩, if_pos q, q, Nat.sub_self]; rfl
          · rw [if_neg (by simp; omega), if_neg q]
        repeat' (first | ((with_reducible refine st1 ?_); (conv => whnf); (with_reducible refine ⟨?_⟩)) | ((with_reducible refine retW_intro rfl ?_); (conv => arg 2; whnf)) | ((with_reducible first | refine iB ?_ ?_ | refine gWt ?_ ?_ | refine gWf ?_ ?_) <;> intro hb <;> (try simp only [hb])) | (simp only [B, F, Nat.reduceLT, Nat.reduceLeDiff, Nat.reduceEqDiff, Nat.reduceAdd, Nat.reduceMul, Nat.reduceSub, ↓reduceIte, eq_self, t0, t6, t7, t8, t9, t10, t11, d1, wi, w8, ia, put_sts, wr3, hvo, @b_shr, sh, ← h4e]))
        refine ⟨m / 256, by omega, i - 1, (m % 256) :: suf, rfl, by omega, by rw [hs3, hge, List.append_assoc]; rfl, by rw [List.length_cons]; omega, by omega, by simp only [B, F, Nat.reduceLT, Nat.reduceLeDiff, Nat.reduceEqDiff, Nat.reduceAdd, Nat.reduceMul, Nat.reduceSub, ↓reduceIte, eq_self, t0], by simp only [B, F, Nat.reduceLT, Nat.reduceLeDiff, Nat.reduceEqDiff, Nat.reduceAdd, Nat.reduceMul, Nat.reduceSub, ↓reduceIte, eq_self], by simp only [B, F, Nat.reduceLT, Nat.reduceLeDiff, Nat.reduceEqDiff, Nat.reduceAdd, Nat.reduceMul, Nat.reduceSub, ↓reduceIte, eq_self, t7], by simp only [B, F, Nat.reduceLT, Nat.reduceLeDiff, Nat.reduceEqDiff, Nat.reduceAdd, Nat.reduceMul, Nat.reduceSub, ↓reduceIte, eq_self], by simp only [B, F, Nat.reduceLT, Nat.reduceLeDiff, Nat.reduceEqDiff, Nat.reduceAdd, Nat.reduceMul, Nat.reduceSub, ↓reduceIte, eq_self, t9], by simp only [B, F, Nat.reduceLT, Nat.reduceLeDiff, Nat.reduceEqDiff, Nat.reduceAdd, Nat.reduceMul, Nat.reduceSub, ↓reduceIte, eq_self, t10], by simp only [B, F, Nat.reduceLT, Nat.reduceLeDiff, Nat.reduceEqDiff, Nat.reduceAdd, Nat.reduceMul, Nat.reduceSub, ↓reduceIte, eq_self, t11], by rw [h4e]; exact o3.sts (.inl (by simp)), by rw [h4e, wrAt_sts]; exact wr3, fun j hj => ?_, fun j hj => ?_⟩
        · rw [hca]
          split
          · exact ⟨_, rfl⟩
          · exact c3 j hj
        · rw [hca]
          cases j with
          | zero => rw [Nat.add_zero, if_pos rfl]; rfl
          | succ j =>
            rw [if_neg (by omega), List.getElem?_cons_succ, show i - 1 + (j + 1) = i + j by omega]
            exact cs j (by simpa using hj)
      · have d1 : decide (0 < m) = false := decide_eq_false hz
        obtain rfl : m = 0 := by omega
        rw [b256_0, List.nil_append] at hs3
        have hi8 : 1 ≤ i ∧ i ≤ 9 := by omega
        have he : encN n = (247 + (b256 n).length) :: b256 n := by unfold encN; rw [if_neg hn8]
        have hln : (b256 n).length = 9 - i := by rw [hs3]; omega
        have w5 : wrapF .i64 (Int.ofNat 255 - Int.ofNat (i - 1)) = .ofNat (255 - (i - 1)) := i64_sub (by omega) (by omega)
        have w6 : wrapF .u8 (Int.ofNat (255 - (i - 1))) = .ofNat (247 + (b256 n).length) := by rw [u8_mod, hln]; congr 1; omega
        obtain ⟨h4, h4e⟩ : ∃ h4, h4 = h3.sts h.nx (i - 1) [.int .u8 (.ofNat (247 + (b256 n).length))] := ⟨_, rfl⟩
        have hca : ∀ j, cellAt h4 h.nx j = if j = i - 1 then some (.int .u8 (.ofNat (247 + (b256 n).length))) else cellAt h3 h.nx j := fun j => by
          rw [h4e, cellAt_sts wr3]
          by_cases q : j = i - 1
          · rw [if_pos ⟨rfl, by omega, by simp; omega⟩, if_pos q, q, Nat.sub_self]; rfl
          · rw [if_neg (by simp; omega), if_neg q]
        have hlen : (encN n).length = 9 - (i - 1) := by rw [he, List.length_cons]; omega
        have cv := conv_bytes (h := h4) (b := h.nx) (o := 0 + (i - 1) * 1) (n := 9 - (i - 1)) (cap := .exact (9 - (i - 1))) (l := encN n) hlen (by rw [he]; simp) (fun j hj => by
          rw [hca, Nat.zero_add, Nat.mul_one, he]
          cases j with
          | zero => rw [Nat.add_zero, if_pos rfl]; rfl
          | succ j =>
            rw [if_neg (by omega), List.getElem?_cons_succ, show i - 1 + (j + 1) = i + j by omega, hs3]
            exact cs j (by rw [hlen] at hj; omega)) (encN_byte hn)
        rw [Nat.zero_add] at cv
        have hsl : sliceA P 78 (.ptr h.nx 0) (some (.int .i64 (.ofNat (i - 1)))) none none = some (.slice h.nx (0 + (i - 1) * 1) (9 - (i - 1)) (.exact (9 - (i - 1)))) := by
          have hb : Nat.ble (i - 1) 9 = true := by rw [Nat.ble_eq]; omega
          have hq : Nat.beq 9 (i - 1) = false := by
            cases q : Nat.beq 9 (i - 1) with
            | false => rfl
            | true => have := Nat.eq_of_beq_eq_true q; omega
          simp only [sliceA, u80a, show okT P 5 = true from ok5, sliceEx, bndO, bnd, hb, hq, co5, Option.isSome, Bool.false_and]
        have ad := fun h t x y => b_addS (a := s) (b := encN n) (by have := encN_len hn; omega) h t x y
        repeat' (first | ((with_reducible refine st1 ?_); (conv => whnf); (with_reducible refine ⟨?_⟩)) | ((with_reducible refine retW_intro rfl ?_); (conv => arg 2; whnf)) | ((with_reducible first | refine iB ?_ ?_ | refine gWt ?_ ?_ | refine gWf ?_ ?_) <;> intro hb <;> (try simp only [hb])) | (simp only [B, F, Nat.reduceLT, Nat.reduceLeDiff, Nat.reduceEqDiff, Nat.reduceAdd, Nat.reduceMul, Nat.reduceSub, ↓reduceIte, eq_self, t0, t6, t7, t8, t9, t10, t11, d1, wi, w5, w6, ia, put_sts, wr3, hvo, ← h4e, @ex_sl_l, hsl, cv, ad, w1]))
        refine ⟨0, by omega, 1, rfl, rfl, by omega, by simp only [B, F, Nat.reduceLT, Nat.reduceLeDiff, Nat.reduceEqDiff, Nat.reduceAdd, Nat.reduceMul, Nat.reduceSub, ↓reduceIte, eq_self], by simp only [B, F, Nat.reduceLT, Nat.reduceLeDiff, Nat.reduceEqDiff, Nat.reduceAdd, Nat.reduceMul, Nat.reduceSub, ↓reduceIte, eq_self, t9], by simp only [B, F, Nat.reduceLT, Nat.reduceLeDiff, Nat.reduceEqDiff, Nat.reduceAdd, Nat.reduceMul, Nat.reduceSub, ↓reduceIte, eq_self, t10], by simp only [B, F, Nat.reduceLT, Nat.reduceLeDiff, Nat.reduceEqDiff, Nat.reduceAdd, Nat.reduceMul, Nat.reduceSub, ↓reduceIte, eq_self], ⟨⟨by rw [h4e, nx_sts]; have := oo.1.1; omega, fun c hc _ => ?_⟩, by rw [h4e, g_sts, o3.2, o2.2, oo.2]⟩⟩
        have := oo.1.1
        rw [h4e, get_sts _ _ _ _ (by omega), o3.1.2 c (by omega) (by simp; omega), o2.1.2 c (by omega) (by simp), oo.1.2 c hc (by simp)]
  · rw [if_neg (by omega)] at t0
    repeat' (first | ((with_reducible refine st1 ?_); (conv => whnf); (with_reducible refine ⟨?_⟩)) | ((with_reducible refine retW_intro rfl ?_); (conv => arg 2; whnf)) | ((with_reducible first | refine iB ?_ ?_ | refine gWt ?_ ?_ | refine gWf ?_ ?_) <;> intro hb <;> (try simp only [hb])) | (simp only [B, F, Nat.reduceLT, Nat.reduceLeDiff, Nat.reduceEqDiff, Nat.reduceAdd, Nat.reduceMul, Nat.reduceSub, ↓reduceIte, eq_self, t0, t9, t10, t11]))
    exact ⟨rfl, oo⟩
theorem putNumC (h : H) (n : Nat) (s : List Nat) (hn : n < M64) (hs : s.length ≤ 10000) : PushC P (.enter 7 [.str s, .int .u64 (.ofNat n)] h) (SaysG h (.str (s ++ encN n))) := by
  refine pushC_of_codeW (fn := Tryz.f7) (c := bodyC Tryz.f7) Tryz.func7 rfl ?_
  show codeW P 7 9 none _ _ _ _ _
  refine codeW_root ?_
  repeat' (first | ((with_reducible refine st1 ?_); (conv => whnf); (with_reducible refine ⟨?_⟩)) | ((with_reducible refine retW_intro rfl ?_); (conv => arg 2; whnf)) | ((with_reducible first | refine iB ?_ ?_ | refine gWt ?_ ?_ | refine gWf ?_ ?_) <;> intro hb <;> (try simp only [hb])) | (simp only [B, F, Nat.reduceLT, Nat.reduceLeDiff, Nat.reduceEqDiff, Nat.reduceAdd, Nat.reduceMul, Nat.reduceSub, ↓reduceIte, eq_self]))
  refine ((putN _ h.nx n s _ (Nat.lt_succ_self _) (by rw [cellAt_new, if_pos rfl]; rfl) hn hs).call P).mono P ?_
  rintro v h1 ⟨rfl, o1⟩
  repeat' (first | ((with_reducible refine st1 ?_); (conv => whnf); (with_reducible refine ⟨?_⟩)) | ((with_reducible refine retW_intro rfl ?_); (conv => arg 2; whnf)) | ((with_reducible first | refine iB ?_ ?_ | refine gWt ?_ ?_ | refine gWf ?_ ?_) <;> intro hb <;> (try simp only [hb])) | (simp only [B, F, Nat.reduceLT, Nat.reduceLeDiff, Nat.reduceEqDiff, Nat.reduceAdd, Nat.reduceMul, Nat.reduceSub, ↓reduceIte, eq_self]))
  exact ⟨rfl, ((Og.refl _ _).new _ _).t o1⟩
theorem putTextC (h : H) (s u : List Nat) (hu : u.length < 100000) (hs : s.length ≤ 9000) : PushC P (.enter 8 [.str s, .str u] h) (SaysG h (.str (s ++ encN u.length ++ u))) := by
  have hu2 : u.length < M64 := by have : M64 = 18446744073709551616 := rfl; omega
  have w : wrapF .u64 (Int.ofNat u.length) = Int.ofNat u.length := u64_nat (by omega)
  have ad := fun h t x y => b_addS (a := s ++ encN u.length) (b := u) (by rw [List.length_append]; have := encN_len hu2; omega) h t x y
  refine pushC_of_codeW (fn := Tryz.f8) (c := bodyC Tryz.f8) Tryz.func8 rfl ?_
  show codeW P 8 13 none _ _ _ _ _
  refine codeW_root ?_
  repeat' (first | ((with_reducible refine st1 ?_); (conv => whnf); (with_reducible refine ⟨?_⟩)) | ((with_reducible refine retW_intro rfl ?_); (conv => arg 2; whnf)) | ((with_reducible first | refine iB ?_ ?_ | refine gWt ?_ ?_ | refine gWf ?_ ?_) <;> intro hb <;> (try simp only [hb])) | (simp only [B, F, Nat.reduceLT, Nat.reduceLeDiff, Nat.reduceEqDiff, Nat.reduceAdd, Nat.reduceMul, Nat.reduceSub, ↓reduceIte, eq_self, w]))
  refine ((putN _ h.nx u.length s _ (Nat.lt_succ_self _) (by rw [cellAt_new, if_pos rfl]; rfl) hu2 (by omega)).call P).mono P ?_
  rintro v h1 ⟨rfl, o1⟩
  repeat' (first | ((with_reducible refine st1 ?_); (conv => whnf); (with_reducible refine ⟨?_⟩)) | ((with_reducible refine retW_intro rfl ?_); (conv => arg 2; whnf)) | ((with_reducible first | refine iB ?_ ?_ | refine gWt ?_ ?_ | refine gWf ?_ ?_) <;> intro hb <;> (try simp only [hb])) | (simp only [B, F, Nat.reduceLT, Nat.reduceLeDiff, Nat.reduceEqDiff, Nat.reduceAdd, Nat.reduceMul, Nat.reduceSub, ↓reduceIte, eq_self, ad]))
  exact ⟨rfl, ((Og.refl _ _).new _ _).t o1⟩
end
end Go.Proofs.YtakgpgamcmemgaaGreat.S

namespace Go.AX
noncomputable section
open Go.RowKit
section
variable {P : Program} {size : Nat}
theorem bi_append_0 {h : H} {t u e : TypeId} {info : TypeInfo} {u' : TypeDesc} (hu : P.underlying t = some (.slice e)) (hu2 : P.underlying u = some u') (hn : ∀ k, u' ≠ .int k) (hi : P.info? e = some info) (hk : appendOk P e info = true)
    (s : AV) (ts : List TypeId) (xs : List AV) : builtinA P .append (t :: u :: ts) (s :: .slice0 :: xs) h = appendN e info.size s 0 [] h := by
  cases u' with
  | int k => exact absurd rfl (hn k)
  | _ => simp only [builtinA, hu, hu2, appendA, hi, lenOfA, hk, srcA]
theorem appendN_0 {h : H} {e size base : Nat} {l0 : AV} {n0 : Nat} {cs0 : List AV} (hg : Grows size base h l0 n0 cs0) : appendN e size l0 0 [] h = .val l0 h := by
  unfold appendN
  rw [Nat.zero_mul]
  cases hg with
  | none => rfl
  | cell => rfl
theorem put_g {h h' : H} {b o : Nat} {l : List AV} (e : h.put b o l = some h') : h'.g = h.g := by
  unfold H.put at e
  repeat' (split at e)
  all_goals (first | (cases e; done) | (cases e; rfl))
theorem appendN_g {e size n : Nat} {s : AV} {new : List AV} {h h' : H} {v : AV} (hx : appendN e size s n new h = .val v h') : h'.g = h.g := by
  unfold appendN at hx
  repeat' (split at hx)
  all_goals (first | (cases hx; done) | (cases hx; rfl) | (rename_i hp; cases hx; exact put_g hp))
theorem Grows.wk {size a b : Nat} {h : H} {v : AV} {n : Nat} {cs : List AV} (hg : Grows size b h v n cs) (hab : a ≤ b) : Grows size a h v n cs := by
  cases hg with
  | none => exact .none
  | cell c n cs t ty h1 h2 h3 h4 h5 => exact .cell c n cs t ty (Nat.le_trans hab h1) h2 h3 h4 h5
theorem exW_growsG {elem : TypeId} {size base : Nat} {h : H} {v : AV} {n m : Nat} {cs new : List AV} {K : AV → H → Prop} (hg : Grows size base h v n cs) (hb : base ≤ h.nx) (hm : 0 < m) (hs : 0 < size) (hl : new.length = m * size) (hsm : n + m ≤ 4194304)
    (hk : ∀ v' h', Grows size base h' v' (n + m) (cs ++ new) → h'.nx = h.nx + 1 → (∀ b, b < h.nx → blkOf v ≠ some b → h'.t.get b = h.t.get b) → blkOf v' = some h.nx → h'.g = h.g → K v' h') : exW P (appendN elem size v m new h) K := by
  obtain ⟨v', h', e, a, b, c, d⟩ := appendN_grows (elem := elem) hg hb hm hs hl hsm
  have g := appendN_g e
  rw [e]; exact hk v' h' a b c d g
@[reducible] def AppTo (size base : Nat) (h : H) (l0 : AV) (n : Nat) (cs : List AV) (K : AV → H → Prop) : Prop :=
  ∀ v' h', Grows size base h' v' n cs → h.nx ≤ h'.nx → (∀ b, b < h.nx → blkOf l0 ≠ some b → h'.t.get b = h.t.get b) → (∀ b, blkOf v' = some b → blkOf l0 = some b ∨ h.nx ≤ b) → h'.g = h.g → K v' h'
theorem app_none {t e : TypeId} (hu : P.underlying t = some (.slice e)) (hi : infoOk P e size = true) {base : Nat} {h : H} {l0 : AV} {n0 : Nat} {cs0 : List AV} (hg : Grows size base h l0 n0 cs0) {v2 : AV} (hv : v2 = .nilslice ∨ v2 = .slice0) {K : AV → H → Prop} (hk : AppTo size base h l0 n0 cs0 K) :
    exW P (builtinA P .append [t, t] [l0, v2] h) K := by
  unfold infoOk at hi
  split at hi
  · rename_i info hinfo
    rw [Bool.and_eq_true] at hi
    have e2 := Nat.eq_of_beq_eq_true hi.2
    have : builtinA P .append [t, t] [l0, v2] h = .val l0 h := by
      rcases hv with rfl | rfl
      · rw [bi_append_nil hu hu (fun k h => by cases h) hinfo hi.1, e2]; exact appendN_0 hg
      · rw [bi_append_0 hu hu (fun k h => by cases h) hinfo hi.1, e2]; exact appendN_0 hg
    rw [this]
    exact hk l0 h hg (Nat.le_refl _) (fun _ _ _ => rfl) (fun _ e => .inl e) rfl
  · cases hi
theorem app_some (hs0 : 0 < size) {t e : TypeId} (hu : P.underlying t = some (.slice e)) (hi : infoOk P e size = true) {base : Nat} {h : H} {l0 : AV} {n0 : Nat} {cs0 : List AV} (hg : Grows size base h l0 n0 cs0) (hb : base ≤ h.nx) {b o k : Nat} {c : Cap} {new : List AV} (hr : h.row b o (k * size) = some new) (hl : new.length = k * size) (hk0 : 0 < k) (hsm : n0 + k ≤ 4194304)
    {K : AV → H → Prop} (hk : AppTo size base h l0 (n0 + k) (cs0 ++ new) K) : exW P (builtinA P .append [t, t] [l0, .slice b o k c] h) K := by
  rw [bi_append2 hu hu (fun k h => by cases h) hi, hr]
  exact exW_growsG hg hb hk0 hs0 hl hsm fun v' h' g x old bl gg => hk v' h' g (by omega) old (fun b e => by rw [bl] at e; cases e; exact .inr (Nat.le_refl _)) gg
theorem app_zero {t e : TypeId} (hu : P.underlying t = some (.slice e)) (hi : infoOk P e size = true) {base : Nat} {h : H} {l0 : AV} {n0 : Nat} {cs0 : List AV} (hg : Grows size base h l0 n0 cs0) {b o : Nat} {c : Cap} (hr : h.row b o 0 = some [])
    {K : AV → H → Prop} (hk : AppTo size base h l0 n0 cs0 K) : exW P (builtinA P .append [t, t] [l0, .slice b o 0 c] h) K := by
  rw [bi_append2 hu hu (fun k h => by cases h) hi, Nat.zero_mul, hr]
  show exW P (appendN e size l0 0 [] h) K
  rw [appendN_0 hg]
  exact hk l0 h hg (Nat.le_refl _) (fun _ _ _ => rfl) (fun _ e => .inl e) rfl
theorem grow_rowB {base : Nat} {h : H} {b n : Nat} {cs : List AV} {t : T AV} {ty : Nat} (h2 : b < h.nx) (h4 : h.t.get b = some (.cells (n * size) t ⟨size, ty⟩ false)) (h5 : ∀ j, t.get j = cs[j]?) : RowB h b (n * size) size ty cs := ⟨h2, t, h4, fun j _ => h5 j⟩
theorem row_zero {h : H} {b m sz ty : Nat} {cs : List AV} (hr : RowB h b m sz ty cs) (o : Nat) : h.row b o 0 = some [] := by
  obtain ⟨-, t, hg, -⟩ := hr
  unfold H.row; rw [hg]; simp only [loadRow_eq]; rfl
theorem appHi (hs0 : 0 < size) {t e : TypeId} (hu : P.underlying t = some (.slice e)) (hok : okT P e = true) (hsz : P.cellsOf e = size) (hi : infoOk P e size = true) {b2 : Nat} {h : H} {s : AV} {n : Nat} {cs : List AV} (hs : Grows size b2 h s n cs) {i : Nat} (hin : i ≤ n) (hn : n ≤ 1000000) :
    ∃ v2, sliceA P t s none (some (.int .i64 (.ofNat i))) none = some v2 ∧ v2.one = true ∧ ∀ base l0 n0 cs0, Grows size base h l0 n0 cs0 → base ≤ h.nx → n0 ≤ 1000000 → ∀ K, AppTo size base h l0 (n0 + i) (cs0 ++ cs.take (i * size)) K → exW P (builtinA P .append [t, t] [l0, v2] h) K := by
  cases hs with
  | none =>
    obtain rfl : i = 0 := by omega
    refine ⟨.nilslice, ?_, rfl, fun base l0 n0 cs0 hg hb hz K hk => app_none hu hi hg (.inl rfl) (by simpa using hk)⟩
    simp only [sliceA, hu, hok]; rfl
  | cell b n cs t' ty h1 h2 h3 h4 h5 =>
    have hr := grow_rowB (base := b2) h2 h4 h5
    refine ⟨.slice b 0 i (.opn 0), ?_, rfl, fun base l0 n0 cs0 hg hb hz K hk => ?_⟩
    · simp only [sliceA, hu, hok, sliceOp, bndO, bnd, ble_t hin, Nat.beq_refl]
    · rcases Nat.eq_zero_or_pos i with rfl | q
      · exact app_zero hu hi hg (row_zero hr 0) (by simpa using hk)
      · have m1 : i * size ≤ n * size := Nat.mul_le_mul_right size hin
        have m2 : 0 < i * size := Nat.mul_pos q hs0
        exact app_some hs0 hu hi hg hb (hr.row (by omega) m2) (by rw [List.length_take, List.length_drop]; omega) q (by omega) (by simpa using hk)
theorem appLo (hs0 : 0 < size) {t e : TypeId} (hu : P.underlying t = some (.slice e)) (hok : okT P e = true) (hsz : P.cellsOf e = size) (hi : infoOk P e size = true) {b2 : Nat} {h : H} {s : AV} {n : Nat} {cs : List AV} (hs : Grows size b2 h s n cs) {i : Nat} (hin : i ≤ n) (hn : n ≤ 1000000) :
    ∃ v2, sliceA P t s (some (.int .i64 (.ofNat i))) none none = some v2 ∧ v2.one = true ∧ ∀ h', (∀ b, blkOf s = some b → h'.t.get b = h.t.get b) → h.nx ≤ h'.nx → ∀ base l0 n0 cs0, Grows size base h' l0 n0 cs0 → base ≤ h'.nx → n0 ≤ 1000000 → ∀ K, AppTo size base h' l0 (n0 + (n - i)) (cs0 ++ cs.drop (i * size)) K → exW P (builtinA P .append [t, t] [l0, v2] h') K := by
  cases hs with
  | none =>
    obtain rfl : i = 0 := by omega
    refine ⟨.nilslice, ?_, rfl, fun h' _ _ base l0 n0 cs0 hg hb hz K hk => app_none hu hi hg (.inl rfl) (by simpa using hk)⟩
    simp only [sliceA, hu, hok]; rfl
  | cell b n cs t' ty h1 h2 h3 h4 h5 =>
    rcases Nat.lt_or_ge i n with q | q
    · refine ⟨.slice b (0 + i * size) (n - i) (.opn (0 + i)), ?_, rfl, fun h' hk1 hk2 base l0 n0 cs0 hg hb hz K hk => ?_⟩
      · exact sl_op_l hu hok hsz b 0 n 0 i .i64 q
      · have hr : RowB h' b (n * size) size ty cs := ⟨by omega, t', by rw [hk1 b rfl]; exact h4, fun j _ => h5 j⟩
        have m1 : (n - i) * size = n * size - i * size := Nat.sub_mul n i size
        have m2 : 0 < (n - i) * size := Nat.mul_pos (by omega) hs0
        have e2 : List.take ((n - i) * size) (List.drop (0 + i * size) cs) = cs.drop (i * size) := by rw [Nat.zero_add, List.take_of_length_le (by rw [List.length_drop]; omega)]
        have hrow := hr.row (o := 0 + i * size) (n := (n - i) * size) (by omega) (by omega)
        rw [e2] at hrow
        exact app_some hs0 hu hi hg hb hrow (by rw [List.length_drop]; omega) (by omega) (by omega) hk
    · obtain rfl : i = n := by omega
      have e2 : cs.drop (i * size) = [] := List.drop_eq_nil_of_le (by omega)
      rw [e2]
      rcases Nat.eq_zero_or_pos i with rfl | q0
      · refine ⟨.slice b 0 0 (.opn 0), ?_, rfl, fun h' hk1 hk2 base l0 n0 cs0 hg hb hz K hk => ?_⟩
        · simp only [sliceA, hu, hok, sliceOp, bndO, bnd, ble_t (Nat.le_refl 0), Nat.beq_refl]
        · have hr : RowB h' b (0 * size) size ty cs := ⟨by omega, t', by rw [hk1 b rfl]; exact h4, fun j _ => h5 j⟩
          exact app_zero hu hi hg (row_zero hr 0) (by simpa using hk)
      · refine ⟨.slice0, ?_, rfl, fun h' hk1 hk2 base l0 n0 cs0 hg hb hz K hk => app_none hu hi hg (.inr rfl) (by simpa using hk)⟩
        simp only [sliceA, hu, hok, sliceOp, bndO, bnd, ble_t (Nat.le_refl i), beq_f (show i ≠ 0 by omega), ble_f (show i < i + 1 by omega)]
theorem ex_sl_lh {tm : T AV} {h : H} (t : TypeId) (x a b : Operand) : execA P tm h (.slice t x (some a) (some b) none) = ob (evalA tm x) fun v => ob (evalA tm a) fun l => ob (evalA tm b) fun r => ob (sliceA P t v (some l) (some r) none) fun v => .val v h := by
  simp only [execA, evalO]
  cases evalA tm x with
  | none => cases evalA tm a <;> cases evalA tm b <;> rfl
  | some v => cases evalA tm a with
    | none => cases evalA tm b <;> rfl
    | some l => cases evalA tm b with
      | none => rfl
      | some r => show optV h (sliceA P t v (some l) (some r) none) = ob (sliceA P t v (some l) (some r) none) _; cases sliceA P t v (some l) (some r) none <;> rfl
theorem app_row (hs0 : 0 < size) {t e : TypeId} (hu : P.underlying t = some (.slice e)) (hi : infoOk P e size = true) {base b2 : Nat} {h : H} {l0 s : AV} {n0 n : Nat} {cs0 cs : List AV} (hg : Grows size base h l0 n0 cs0) (hs : Grows size b2 h s n cs) (hb : base ≤ h.nx) (hz : n0 + n ≤ 4194304)
    {K : AV → H → Prop} (hk : AppTo size base h l0 (n0 + n) (cs0 ++ cs) K) : exW P (builtinA P .append [t, t] [l0, s] h) K := by
  cases hs with
  | none => exact app_none hu hi hg (.inl rfl) (by simpa using hk)
  | cell b n cs t' ty h1 h2 h3 h4 h5 =>
    have hr := grow_rowB (base := b2) h2 h4 h5
    rcases Nat.eq_zero_or_pos n with rfl | q
    · have : cs = [] := List.length_eq_zero_iff.1 (by simpa using h3)
      subst this
      exact app_zero hu hi hg (row_zero hr 0) (by simpa using hk)
    · have m2 : 0 < n * size := Nat.mul_pos q hs0
      have hrow := hr.row (o := 0) (n := n * size) (by omega) m2
      rw [List.drop_zero, List.take_of_length_le (by omega)] at hrow
      exact app_some hs0 hu hi hg hb hrow (by omega) q (by omega) hk
theorem Grows.sts {base : Nat} {h : H} {b n : Nat} {cap : Cap} {cs : List AV} (hg : Grows size base h (.slice b 0 n cap) n cs) (o : Nat) (v : AV) : Grows size base (h.sts b o [v]) (.slice b 0 n cap) n (cs.set o v) ∨ cs.length ≤ o := by
  cases hg with
  | cell b n cs t' ty h1 h2 h3 h4 h5 =>
    by_cases ho : o < cs.length
    · left
      have e : h.sts b o [v] = { h with t := h.t.set b (some (.cells (n * size) (setL t' o [v]) ⟨size, ty⟩ false)) } := by unfold H.sts; rw [h4]
      rw [e]
      refine .cell b n (cs.set o v) (setL t' o [v]) ty h1 h2 (by rw [List.length_set]; exact h3) (by rw [T.get_set, if_pos rfl]) (fun j => ?_)
      rw [setL_get, h5, List.getElem?_set]
      by_cases q : o = j
      · subst q
        rw [if_pos ⟨Nat.le_refl _, by simp⟩, if_pos rfl, if_pos ho, Nat.sub_self]; rfl
      · rw [if_neg (by simp; omega), if_neg q]
    · exact .inr (by omega)
theorem Grows.wr {base : Nat} {h : H} {b n : Nat} {cap : Cap} {cs : List AV} (hg : Grows size base h (.slice b 0 n cap) n cs) : wrAt h b = true := by
  cases hg with
  | cell b n cs t' ty h1 h2 h3 h4 h5 => unfold wrAt; rw [h4]
theorem Grows.at_ {base : Nat} {h : H} {b n : Nat} {cap : Cap} {cs : List AV} (hg : Grows size base h (.slice b 0 n cap) n cs) (j : Nat) : cellAt h b j = cs[j]? := by
  cases hg with
  | cell b n cs t' ty h1 h2 h3 h4 h5 => unfold cellAt; rw [h4]; exact h5 j
end
end
end Go.AX

namespace Go.AX
noncomputable section
open Go.RowKit
section
variable {κ : Type} {enc : κ → AV}
structure RngK (enc : κ → AV) (h : H) (it r : Nat) (L V R : List (κ × AV)) : Prop where
  has : ∃ es clock seen, h.t.get r = some (.map es clock) ∧ es.map entP = L.map (encP enc) ∧ (es.map (·.2.2)).Nodup ∧ (∀ e, e ∈ es → e.2.2 < clock) ∧ h.t.get it = some (.mapIter (some r) clock seen clock) ∧
    (es.filter fun e => notIn seen e.2.2).map entP = R.map (encP enc)
  pm : (V ++ R).Perm L
  lt : it < h.nx
  ltr : r < h.nx
theorem RngK.get {h h' : H} {it r : Nat} {L V R : List (κ × AV)} (k : RngK enc h it r L V R) (hx : h.nx ≤ h'.nx) (e1 : h'.t.get it = h.t.get it) (e2 : h'.t.get r = h.t.get r) : RngK enc h' it r L V R :=
  ⟨by obtain ⟨es, c, s, a, b, c', d, e, f⟩ := k.has; exact ⟨es, c, s, by rw [e2]; exact a, b, c', d, by rw [e1]; exact e, f⟩, k.pm, Nat.lt_of_lt_of_le k.lt hx, Nat.lt_of_lt_of_le k.ltr hx⟩
theorem RngK.keep {h h' : H} {it r : Nat} {L V R : List (κ × AV)} (k : RngK enc h it r L V R) {S : List Nat} (o : Only h h' S) (h1 : it ∉ S) (h2 : r ∉ S) : RngK enc h' it r L V R := k.get o.1 (o.2 it k.lt h1) (o.2 r k.ltr h2)
theorem RngK.map [DecidableEq κ] {h : H} {it r : Nat} {L V R : List (κ × AV)} (k : RngK enc h it r L V R) : MapK enc h r L := by
  obtain ⟨es, c, s, a, b, c', d, e, f⟩ := k.has
  exact ⟨⟨es, c, a, b, c', d⟩, k.ltr⟩
variable {P : Program}
theorem range_k {h : H} {r : Nat} {L : List (κ × AV)} [DecidableEq κ] (m : MapK enc h r L) {t kt elem : TypeId} (ht : P.underlying t = some (.map kt elem)) :
    ∃ h', rangeA P t (.map r) h = .val (.ptr h.nx 0) h' ∧ RngK enc h' h.nx r L [] L ∧ h'.nx = h.nx + 1 ∧ Only h h' [] ∧ h'.g = h.g := by
  obtain ⟨es, c, h1, h2, h3, h4⟩ := m.has
  have hlt := m.lt
  have ho : Only h (h.alloc (.mapIter (some r) c [] c)) [] := ⟨Nat.le_succ _, fun b hb _ => by
    show (h.t.set h.nx _).get b = _
    rw [T.get_set, if_neg (by omega)]⟩
  refine ⟨h.alloc (.mapIter (some r) c [] c), by unfold rangeA; simp only [ht, h1], ⟨⟨es, c, [], by rw [ho.2 r hlt (by simp)]; exact h1, h2, h3, h4, ?_, ?_⟩, by simp, Nat.lt_succ_self _, Nat.lt_succ_of_lt hlt⟩, rfl, ho, rfl⟩
  · show (h.t.set h.nx _).get h.nx = _
    rw [T.get_set, if_pos rfl]
  · rw [← h2]
    congr 1
    exact List.filter_eq_self.2 fun e _ => rfl
theorem beqF (x b : Nat) : Nat.beq x b = decide (x = b) := by
  cases q : Nat.beq x b with
  | true => have := Nat.eq_of_beq_eq_true q; simp [this]
  | false => have := Nat.ne_of_beq_eq_false q; simp [this]
theorem notIn_app (s : List Nat) (x b : Nat) : notIn (s ++ [b]) x = (notIn s x && !Nat.beq x b) := by
  rw [notIn_eq, notIn_eq, beqF, Bool.eq_iff_iff]
  simp [List.mem_append, not_or]
theorem findStamp_at : ∀ {es : List (AV × AV × Nat)} {e : AV × AV × Nat}, e ∈ es → (es.map (·.2.2)).Nodup → findStamp e.2.2 es = some (.tuple [e.1, e.2.1])
  | [], e, he, _ => by cases he
  | a :: es, e, he, hn => by
    rw [List.map_cons, List.nodup_cons] at hn
    unfold findStamp
    rcases List.mem_cons.1 he with rfl | he
    · rw [Nat.beq_refl]
    · have : Nat.beq a.2.2 e.2.2 = false := by
        cases q : Nat.beq a.2.2 e.2.2 with
        | false => rfl
        | true =>
          have := Nat.eq_of_beq_eq_true q
          exact absurd (by rw [this]; exact List.mem_map_of_mem he) hn.1
      rw [this]
      exact findStamp_at he hn.2
theorem lastOf_app : ∀ (l : List Nat) (b : Nat), lastOf (l ++ [b]) = some b
  | [], b => rfl
  | x :: l, b => by
    have ih := lastOf_app l b
    cases l with
    | nil => rfl
    | cons y l => exact ih
theorem next_k {h : H} {it r : Nat} {L V R : List (κ × AV)} (k : RngK enc h it r L V R) :
    ∃ C, nextL (.ptr it 0) h = some C ∧ ∀ y, y ∈ C → (R = [] ∧ y = (.tuple [.bool false], h)) ∨
      ∃ p R1 R2, R = R1 ++ p :: R2 ∧ y.1 = .tuple [.bool true, enc p.1, p.2] ∧ RngK enc y.2 it r L (V ++ [p]) (R1 ++ R2) ∧ y.2.nx = h.nx ∧ Only h y.2 [it] ∧ y.2.g = h.g ∧
        ∀ h2, h2.t.get it = y.2.t.get it → h2.t.get r = y.2.t.get r → entryA (.ptr it 0) h2 = some (.tuple [enc p.1, p.2]) := by
  obtain ⟨es, clock, seen, h1, h2, h3, h4, h5, h6⟩ := k.has
  have hne : r ≠ it := by
    intro e; subst e; rw [h1] at h5; cases h5
  have hall : ((es.all fun e => Nat.blt e.2.2 clock) && Nat.ble clock clock) = true := by
    rw [Bool.and_eq_true]
    refine ⟨List.all_eq_true.2 fun e he => ?_, Nat.ble_self_eq_true _⟩
    rw [Nat.blt_eq]; exact h4 e he
  obtain ⟨F, hF⟩ : ∃ F, F = es.filter fun e => notIn seen e.2.2 := ⟨_, rfl⟩
  rw [← hF] at h6
  cases hc : F with
  | nil =>
    refine ⟨[(.tuple [.bool false], h)], ?_, fun y hy => .inl ⟨?_, List.mem_singleton.1 hy⟩⟩
    · unfold nextL
      simp only [h5, h1, hall, ← hF, hc]
    · rw [hc] at h6; exact List.map_eq_nil_iff.1 h6.symm
  | cons u us =>
    refine ⟨F.map fun e => (.tuple [.bool true, e.1, e.2.1], { h with t := h.t.set it (some (.mapIter (some r) clock (seen ++ [e.2.2]) clock)) }), ?_, fun y hy => .inr ?_⟩
    · unfold nextL
      simp only [h5, h1, hall, ← hF, hc]
    · obtain ⟨e, he, rfl⟩ := List.mem_map.1 hy
      obtain ⟨F1, F2, hF12⟩ := List.append_of_mem he
      have hees : e ∈ es := by rw [hF] at he; exact (List.mem_filter.1 he).1
      have hsub : (F.map (·.2.2)).Nodup := by rw [hF]; exact h3.sublist (List.filter_sublist.map _)
      rw [hF12, List.map_append, List.map_cons] at h6
      obtain ⟨R1, R', hR, q1, q2⟩ := List.map_eq_append_iff.1 h6.symm
      obtain ⟨p, R2, hR', q3, q4⟩ := List.map_eq_cons_iff.1 q2
      subst hR'
      have e1 : e.1 = enc p.1 := (congrArg Prod.fst q3).symm
      have e2 : e.2.1 = p.2 := (congrArg Prod.snd q3).symm
      have ho : Only h { h with t := h.t.set it (some (.mapIter (some r) clock (seen ++ [e.2.2]) clock)) } [it] := ⟨Nat.le_refl _, fun b _ hn => by rw [T.get_set, if_neg (by simpa using hn)]⟩
      have hg1 : ∀ x, (h.t.set it (some x)).get r = some (.map es clock) := fun x => by rw [T.get_set, if_neg hne]; exact h1
      have hg2 : ∀ x, (h.t.set it (some x)).get it = some x := fun x => by rw [T.get_set, if_pos rfl]
      have hfil : (es.filter fun x => notIn (seen ++ [e.2.2]) x.2.2) = F1 ++ F2 := by
        have a1 : (es.filter fun x => notIn (seen ++ [e.2.2]) x.2.2) = F.filter fun x => !Nat.beq x.2.2 e.2.2 := by
          rw [hF, List.filter_filter]
          congr 1
          funext x
          rw [notIn_app, Bool.and_comm]
        rw [a1, hF12, List.filter_append, List.filter_cons]
        rw [hF12, List.map_append, List.map_cons, List.nodup_append, List.nodup_cons] at hsub
        have b1 : F1.filter (fun x => !Nat.beq x.2.2 e.2.2) = F1 := List.filter_eq_self.2 fun x hx => by
          have : x.2.2 ≠ e.2.2 := hsub.2.2 x.2.2 (List.mem_map_of_mem hx) e.2.2 (by simp)
          rw [beqF]; simp [this]
        have b2 : F2.filter (fun x => !Nat.beq x.2.2 e.2.2) = F2 := List.filter_eq_self.2 fun x hx => by
          have : x.2.2 ≠ e.2.2 := fun q => hsub.2.1.1 (by rw [← q]; exact List.mem_map_of_mem hx)
          rw [beqF]; simp [this]
        rw [b1, b2, Nat.beq_refl]
        rfl
      refine ⟨p, R1, R2, hR, by rw [← e1, ← e2], ⟨⟨es, clock, seen ++ [e.2.2], hg1 _, h2, h3, h4, hg2 _, ?_⟩, ?_, k.lt, k.ltr⟩, rfl, ho, rfl, fun hh g1 g2 => ?_⟩
      · rw [hfil, List.map_append, List.map_append, q1, q4]
      · refine List.Perm.trans ?_ k.pm
        rw [hR, List.append_assoc]
        refine List.Perm.append_left V ?_
        rw [List.singleton_append]
        exact List.perm_middle.symm
      · rw [hg2] at g1
        rw [hg1] at g2
        unfold entryA
        simp only [g1, g2, lastOf_app, Nat.beq_refl, findStamp_at hees h3, e1, e2]
variable {nt : Nat} {tm : T AV} {h : H}
theorem pick_k {ops : Array Oper} {o : Oper} {l : List Oper} {Q : T AV → H → Prop} {t : Tmp} {it r : Nat} {L V R : List (κ × AV)} (hg : o.guard = none) (hop : o.op = .next (.tmp t) false) (ht : tm.get t = some (.ptr it 0)) (k : RngK enc h it r L V R)
    (h0 : R = [] → opsW P nt ops l (putT nt tm o.dst (.tuple [.bool false])) h Q)
    (h1 : ∀ p R1 R2 h2, R = R1 ++ p :: R2 → RngK enc h2 it r L (V ++ [p]) (R1 ++ R2) → h2.nx = h.nx → Only h h2 [it] → h2.g = h.g → (∀ h3, h3.t.get it = h2.t.get it → h3.t.get r = h2.t.get r → entryA (.ptr it 0) h3 = some (.tuple [enc p.1, p.2])) →
      opsW P nt ops l (putT nt tm o.dst (.tuple [.bool true, enc p.1, p.2])) h2 Q) : pickW P nt ops (o :: l) tm h Q := by
  obtain ⟨C, hC, hall⟩ := next_k k
  refine ⟨hg, C, ?_, fun y hy => ?_⟩
  · rw [hop]
    unfold pickA
    have : evalA tm (.tmp t) = some (.ptr it 0) := by unfold evalA; simp only [ht]
    simp only [this]
    exact hC
  · rcases hall y hy with ⟨a, rfl⟩ | ⟨p, R1, R2, a, b, c, d, e, f, g⟩
    · exact h0 a
    · rw [b]; exact h1 p R1 R2 y.2 a c d e f g
theorem ex_range (t : TypeId) (x : Operand) : execA P tm h (.range t x) = ob (evalA tm x) fun v => rangeA P t v h := by
  simp only [execA]
  cases evalA tm x <;> rfl
theorem ex_entry (x : Operand) : execA P tm h (.entry x) = ob (evalA tm x) fun v => ob (entryA v h) fun v => .val v h := by
  simp only [execA]
  cases evalA tm x with
  | none => rfl
  | some v => show optV h (entryA v h) = ob (entryA v h) _; cases entryA v h <;> rfl
end
structure StopC (p : Prop) : Prop where
  go : p
theorem stopC {P : Program} {fn nt : Nat} {ro : Option Nat} {c : Code} (rp : List Nat) {ds : List Nat} {tm : T AV} {h : H} {Q : KQ} (hw : StopC (codeW P fn nt ro (codeI c rp) ds tm h Q)) : codeW P fn nt ro (codeI c rp) ds tm h Q := hw.go
def pk1F (P : Program) (nt : Nat) (ds : List Nat) (tm : T AV) (h : H) (Q : KQ) : Code → Prop
  | .region _ ops false => Hold (pickW P nt ops ops.toList tm h (Q .norm ds))
  | _ => False
theorem pk1 {P : Program} {fn nt : Nat} {ro : Option Nat} {c : Code} {rp : List Nat} {ds : List Nat} {tm : T AV} {h : H} {Q : KQ} (hw : pk1F P nt ds tm h Q (codeI c rp)) : codeW P fn nt ro (codeI c rp) ds tm h Q := by
  cases e : codeI c rp with
  | region i ops d =>
    rw [e] at hw
    cases d with
    | false => exact .inr hw.h
    | true => exact absurd hw id
  | _ => rw [e] at hw; exact absurd hw id
end
end Go.AX

namespace Go.Proofs.YtakgpgamcmemgaaGreat.S
open Go Go.AX
noncomputable section
set_option maxRecDepth 100000
theorem conv1 {h : H} (n : Nat) (hn : n < 256) : convR P 44 9 (.slice h.nx 0 1 (.exact 1)) (h.newCells 5 [.int .u8 (.ofNat n)]) = .val (.str [n]) (h.newCells 5 [.int .u8 (.ofNat n)]) :=
  conv_bytes (l := [n]) rfl (by simp) (fun j hj => by
    rw [cellAt_new, if_pos rfl, Nat.zero_add]
    match j, hj with
    | 0, _ => rfl) (fun c hc => by rw [List.mem_singleton] at hc; omega)
theorem rm256 (h : H) (t : TypeId) (x y : Operand) (m : Nat) : binR P h .rem t x y (.int .u64 (.ofNat m)) (.int .u64 (.ofNat 256)) = .val (.int .u64 (.ofNat (m % 256))) h := b_rem _ _ _ rfl
theorem rm16 (h : H) (t : TypeId) (x y : Operand) (m : Nat) : binR P h .rem t x y (.int .u64 (.ofNat m)) (.int .u64 (.ofNat 16)) = .val (.int .u64 (.ofNat (m % 16))) h := b_rem _ _ _ rfl
theorem qu256 {m : Nat} (hm : m < M64) (h : H) (t : TypeId) (x y : Operand) : binR P h .quo t x y (.int .u64 (.ofNat m)) (.int .u64 (.ofNat 256)) = .val (.int .u64 (.ofNat (m / 256))) h := by
  rw [b_quo _ _ _ rfl]
  have : (Int.ofNat m).tdiv (Int.ofNat 256) = Int.ofNat (m / 256) := rfl
  rw [this, u64_nat (by have : M64 = 18446744073709551616 := rfl; omega)]
theorem qu16 {m : Nat} (hm : m < M64) (h : H) (t : TypeId) (x y : Operand) : binR P h .quo t x y (.int .u64 (.ofNat m)) (.int .u64 (.ofNat 16)) = .val (.int .u64 (.ofNat (m / 16))) h := by
  rw [b_quo _ _ _ rfl]
  have : (Int.ofNat m).tdiv (Int.ofNat 16) = Int.ofNat (m / 16) := rfl
  rw [this, u64_nat (by have : M64 = 18446744073709551616 := rfl; omega)]
structure RpI (h0 : H) (n : Nat) (s : List Nat) (m : Nat) (ds : List Nat) (tm : T AV) (h : H) (suf : List Nat) : Prop where
  ds : ds = []
  le : m < M64
  hs : b256 n = b256 m ++ suf
  t0 : tm.get 0 = some (.str s)
  t1 : tm.get 1 = some (.int .u64 (.ofNat m))
  t5 : tm.get 5 = some (.str suf)
  oo : Og h0 h []
theorem rPutN (h0 : H) (n : Nat) (s : List Nat) (hn : n < M64) (hs : s.length ≤ 10000) : PushC P (.enter 10 [.str s, .int .u64 (.ofNat n)] h0) (SaysG h0 (.str (s ++ encN n))) := by
  have e0 : bytesOf { data := #[] } = [] := rfl
  refine pushC_of_codeW (fn := Tryz.f10) (c := bodyC Tryz.f10) Tryz.func10 rfl ?_
  show codeW P 10 35 none _ _ _ _ _
  refine codeW_root ?_
  by_cases hn8 : n < 248
  · have hlt : decide (n < 248) = true := decide_eq_true hn8
    have w8 : wrapF .u8 (Int.ofNat n) = Int.ofNat n := by rw [u8_mod, Nat.mod_eq_of_lt (by omega)]
    have he : encN n = [n] := by unfold encN; rw [if_pos hn8]
    rw [he]
    have cv := conv1 (h := h0) n (by omega)
    have ad := fun h t x y => b_addS (a := s) (b := [n]) (by simp; omega) h t x y
    repeat' (first | ((with_reducible refine st1 ?_); (conv => whnf); (with_reducible refine ⟨?_⟩)) | ((with_reducible refine retW_intro rfl ?_); (conv => arg 2; whnf)) | ((with_reducible first | refine iB ?_ ?_ | refine gWt ?_ ?_ | refine gWf ?_ ?_) <;> intro hb <;> (try simp only [hb])) | (simp only [B, F, Nat.reduceLT, Nat.reduceLeDiff, Nat.reduceEqDiff, Nat.reduceAdd, Nat.reduceMul, Nat.reduceSub, ↓reduceIte, eq_self, e0, hlt, w8, cv, ad]))
    exact ⟨rfl, (Og.refl _ _).new _ _⟩
  · have hlt : decide (n < 248) = false := decide_eq_false hn8
    have hd8 : (b256 n).length ≤ 8 := b256_len 8 n hn
    repeat' (first | ((with_reducible refine st1 ?_); (conv => whnf); (with_reducible refine ⟨?_⟩)) | ((with_reducible refine retW_intro rfl ?_); (conv => arg 2; whnf)) | ((with_reducible first | refine iB ?_ ?_ | refine gWt ?_ ?_ | refine gWf ?_ ?_) <;> intro hb <;> (try simp only [hb])) | (simp only [B, F, Nat.reduceLT, Nat.reduceLeDiff, Nat.reduceEqDiff, Nat.reduceAdd, Nat.reduceMul, Nat.reduceSub, ↓reduceIte, eq_self, e0, hlt]))
    refine st_loop (fun m ds tm h' => ∃ suf, RpI h0 n s m ds tm h' suf) n rfl ⟨[], rfl, hn, by simp, by simp only [B, F, Nat.reduceLT, Nat.reduceLeDiff, Nat.reduceEqDiff, Nat.reduceAdd, Nat.reduceMul, Nat.reduceSub, ↓reduceIte, eq_self], by simp only [B, F, Nat.reduceLT, Nat.reduceLeDiff, Nat.reduceEqDiff, Nat.reduceAdd, Nat.reduceMul, Nat.reduceSub, ↓reduceIte, eq_self], by simp only [B, F, Nat.reduceLT, Nat.reduceLeDiff, Nat.reduceEqDiff, Nat.reduceAdd, Nat.reduceMul, Nat.reduceSub, ↓reduceIte, eq_self], Og.refl _ _⟩ (fun m ds tm h3 hI => ?_)
    obtain ⟨suf, rfl, hm, hs3, t0, t1, t5, o3⟩ := hI
    by_cases hz : 0 < m
    · have d1 : decide (0 < m) = true := decide_eq_true hz
      have w8 : wrapF .u8 (Int.ofNat (m % 256)) = Int.ofNat (m % 256) := by rw [u8_mod, Nat.mod_mod]
      have hge := b256_s (n := m) (by omega)
      have hl3 : suf.length ≤ 8 := by have := congrArg List.length hs3; simp at this; omega
      have cv := conv1 (h := h3) (m % 256) (Nat.mod_lt _ (by omega))
      have ad := fun h t x y => b_addS (a := [m % 256]) (b := suf) (by simp; omega) h t x y
      have qu := qu256 hm
      repeat' (first | ((with_reducible refine st1 ?_); (conv => whnf); (with_reducible refine ⟨?_⟩)) | ((with_reducible refine retW_intro rfl ?_); (conv => arg 2; whnf)) | ((with_reducible first | refine iB ?_ ?_ | refine gWt ?_ ?_ | refine gWf ?_ ?_) <;> intro hb <;> (try simp only [hb])) | (simp only [B, F, Nat.reduceLT, Nat.reduceLeDiff, Nat.reduceEqDiff, Nat.reduceAdd, Nat.reduceMul, Nat.reduceSub, ↓reduceIte, eq_self, t0, t1, t5, d1, rm256, qu, w8, cv, ad]))
      refine ⟨m / 256, by omega, _, rfl, by omega, by rw [hs3, hge, List.append_assoc], by simp only [B, F, Nat.reduceLT, Nat.reduceLeDiff, Nat.reduceEqDiff, Nat.reduceAdd, Nat.reduceMul, Nat.reduceSub, ↓reduceIte, eq_self, t0], by simp only [B, F, Nat.reduceLT, Nat.reduceLeDiff, Nat.reduceEqDiff, Nat.reduceAdd, Nat.reduceMul, Nat.reduceSub, ↓reduceIte, eq_self], by simp only [B, F, Nat.reduceLT, Nat.reduceLeDiff, Nat.reduceEqDiff, Nat.reduceAdd, Nat.reduceMul, Nat.reduceSub, ↓reduceIte, eq_self], o3.new _ _⟩
    · have d1 : decide (0 < m) = false := decide_eq_false hz
      obtain rfl : m = 0 := by omega
      rw [b256_0, List.nil_append] at hs3
      have he : encN n = (247 + (b256 n).length) :: b256 n := by unfold encN; rw [if_neg hn8]
      rw [← hs3] at t5
      have w5 : wrapF .i64 (Int.ofNat 247 + Int.ofNat (b256 n).length) = .ofNat (247 + (b256 n).length) := i64_add (by omega)
      have w6 : wrapF .u8 (Int.ofNat (247 + (b256 n).length)) = .ofNat (247 + (b256 n).length) := by rw [u8_mod, Nat.mod_eq_of_lt (by omega)]
      have cv := conv1 (h := h3) (247 + (b256 n).length) (by omega)
      have ad := fun h t x y => b_addS (a := s) (b := [247 + (b256 n).length]) (by simp; omega) h t x y
      have ad2 := fun h t x y => b_addS (a := s ++ [247 + (b256 n).length]) (b := b256 n) (by simp; omega) h t x y
      repeat' (first | ((with_reducible refine st1 ?_); (conv => whnf); (with_reducible refine ⟨?_⟩)) | ((with_reducible refine retW_intro rfl ?_); (conv => arg 2; whnf)) | ((with_reducible first | refine iB ?_ ?_ | refine gWt ?_ ?_ | refine gWf ?_ ?_) <;> intro hb <;> (try simp only [hb])) | (simp only [B, F, Nat.reduceLT, Nat.reduceLeDiff, Nat.reduceEqDiff, Nat.reduceAdd, Nat.reduceMul, Nat.reduceSub, ↓reduceIte, eq_self, t0, t1, t5, d1, w5, w6, cv, ad, ad2]))
      exact ⟨by rw [he, List.append_assoc]; rfl, o3.new _ _⟩
theorem rPutText (h : H) (s u : List Nat) (hu : u.length < 100000) (hs : s.length ≤ 9000) : PushC P (.enter 9 [.str s, .str u] h) (SaysG h (.str (s ++ encN u.length ++ u))) := by
  have hu2 : u.length < M64 := by have : M64 = 18446744073709551616 := rfl; omega
  have w : wrapF .u64 (Int.ofNat u.length) = Int.ofNat u.length := u64_nat (by omega)
  have ad := fun h t x y => b_addS (a := s ++ encN u.length) (b := u) (by rw [List.length_append]; have := encN_len hu2; omega) h t x y
  refine pushC_of_codeW (fn := Tryz.f9) (c := bodyC Tryz.f9) Tryz.func9 rfl ?_
  show codeW P 9 12 none _ _ _ _ _
  refine codeW_root ?_
  repeat' (first | ((with_reducible refine st1 ?_); (conv => whnf); (with_reducible refine ⟨?_⟩)) | ((with_reducible refine retW_intro rfl ?_); (conv => arg 2; whnf)) | ((with_reducible first | refine iB ?_ ?_ | refine gWt ?_ ?_ | refine gWf ?_ ?_) <;> intro hb <;> (try simp only [hb])) | (simp only [B, F, Nat.reduceLT, Nat.reduceLeDiff, Nat.reduceEqDiff, Nat.reduceAdd, Nat.reduceMul, Nat.reduceSub, ↓reduceIte, eq_self, w]))
  refine ((rPutN _ u.length s hu2 (by omega)).call P).mono P ?_
  rintro v h1 ⟨rfl, o1⟩
  repeat' (first | ((with_reducible refine st1 ?_); (conv => whnf); (with_reducible refine ⟨?_⟩)) | ((with_reducible refine retW_intro rfl ?_); (conv => arg 2; whnf)) | ((with_reducible first | refine iB ?_ ?_ | refine gWt ?_ ?_ | refine gWf ?_ ?_) <;> intro hb <;> (try simp only [hb])) | (simp only [B, F, Nat.reduceLT, Nat.reduceLeDiff, Nat.reduceEqDiff, Nat.reduceAdd, Nat.reduceMul, Nat.reduceSub, ↓reduceIte, eq_self, ad]))
  exact ⟨rfl, o1⟩
end
end Go.Proofs.YtakgpgamcmemgaaGreat.S

namespace Go.Proofs.YtakgpgamcmemgaaGreat.S
open Go Go.AX
noncomputable section
set_option maxRecDepth 100000
theorem ord3_0 : drawO P (regionOf (codeI (bodyC Tryz.f3) [0, 1, 1])) [0, 2, 1, 3, 4, 5, 6, 7, 8] = true := by kernel_rfl
theorem ord4_0 : drawO P (regionOf (codeI (bodyC Tryz.f4) [0, 1, 1, 1])) [0, 1, 2, 4, 5, 6, 8, 9, 10, 3, 7, 11, 12] = true := by kernel_rfl
theorem ord4_1 : drawO P (regionOf (codeI (bodyC Tryz.f4) [0, 1, 1, 1, 1])) [0, 1, 3, 4, 5, 2, 6, 7] = true := by kernel_rfl
theorem ord4_2 : drawO P (regionOf (codeI (bodyC Tryz.f4) [0, 1, 1, 1, 1, 1])) [0, 1, 2, 3, 5, 6, 7, 4, 8, 9] = true := by kernel_rfl
theorem ord5_0 : drawO P (regionOf (codeI (bodyC Tryz.f5) [0, 1, 1])) [0, 1, 2, 3, 5, 6, 7, 4, 8, 9] = true := by kernel_rfl
theorem ord5_1 : drawO P (regionOf (codeI (bodyC Tryz.f5) [0, 1, 1, 1, 1, 1])) [0, 1, 3, 4, 5, 2, 6, 7] = true := by kernel_rfl
theorem ord5_2 : drawO P (regionOf (codeI (bodyC Tryz.f5) [0, 1, 1, 1, 1, 1, 1])) [0, 1, 2, 3, 5, 6, 7, 4, 8, 9] = true := by kernel_rfl
theorem rO4KHcC {p q r : Prop} (hq : q) (fs : r) (f : r → q → p := by intro fs hq; (repeat' (first | ((with_reducible refine st1 ?_); (conv => whnf); (with_reducible refine ⟨?_⟩)) | ((with_reducible refine st_dp ord4_0 ?_ rfl rfl ?_); exact rfl; (conv => arg 4; whnf); (conv => arg 3; whnf)) | ((with_reducible refine st_dp ord4_1 ?_ rfl rfl ?_); exact rfl; (conv => arg 4; whnf); (conv => arg 3; whnf)) | ((with_reducible refine st_dp ord4_2 ?_ rfl rfl ?_); exact rfl; (conv => arg 4; whnf); (conv => arg 3; whnf)) | ((with_reducible refine retW_intro rfl ?_); (conv => arg 2; whnf)) | ((with_reducible first | refine iB ?_ ?_ | refine gWt ?_ ?_ | refine gWf ?_ ?_ | refine gXt ?_ ?_ | refine gXf ?_ ?_) <;> intro hb <;> (try simp only [hb])) | ((with_reducible show drawP _ _ _ _ _ _ _ _ _); first | ((with_reducible apply kP_rd); exact rfl; exact rfl) | ((with_reducible apply kP_rg); exact rfl; exact rfl; exact rfl) | ((with_reducible apply kP_cv); exact rfl; exact rfl; kernel_rfl) | ((with_reducible apply kP_al); exact rfl; exact rfl; exact rfl) | ((with_reducible apply kP_fl); exact rfl; exact rfl; exact rfl) | ((with_reducible apply kP_ex); exact rfl; exact rfl; kernel_rfl; exact rfl) | ((with_reducible apply kP_eg); exact rfl; exact rfl; kernel_rfl; exact rfl) | ((with_reducible refine kP_nl ?_ ?_))) | ((with_reducible show eOk _ _ _ _ _ _); first | (exact eok_nil) | (refine ke_rd ?_ ?_ ?_; exact rfl) | (apply ke_rg; exact rfl; exact rfl) | (refine ke_cv ?_ ?_ ?_ ?_; exact rfl; kernel_rfl) | (apply ke_fl; exact rfl) | (apply ke_al; exact rfl; exact rfl)) | ((with_reducible refine freshIs_new ?_); kernel_rfl) | (simp only [B, xB, F, Nat.reduceLT, Nat.reduceLeDiff, Nat.reduceEqDiff, Nat.reduceAdd, Nat.reduceMul, Nat.reduceSub, ↓reduceIte, eq_self, fs]))); exact hq) : p := f fs hq
theorem rO4KHcC0 {p q : Prop} (hq : q) (f : q → p := by intro hq; (repeat' (first | ((with_reducible refine st1 ?_); (conv => whnf); (with_reducible refine ⟨?_⟩)) | ((with_reducible refine st_dp ord4_0 ?_ rfl rfl ?_); exact rfl; (conv => arg 4; whnf); (conv => arg 3; whnf)) | ((with_reducible refine st_dp ord4_1 ?_ rfl rfl ?_); exact rfl; (conv => arg 4; whnf); (conv => arg 3; whnf)) | ((with_reducible refine st_dp ord4_2 ?_ rfl rfl ?_); exact rfl; (conv => arg 4; whnf); (conv => arg 3; whnf)) | ((with_reducible refine retW_intro rfl ?_); (conv => arg 2; whnf)) | ((with_reducible first | refine iB ?_ ?_ | refine gWt ?_ ?_ | refine gWf ?_ ?_ | refine gXt ?_ ?_ | refine gXf ?_ ?_) <;> intro hb <;> (try simp only [hb])) | ((with_reducible show drawP _ _ _ _ _ _ _ _ _); first | ((with_reducible apply kP_rd); exact rfl; exact rfl) | ((with_reducible apply kP_rg); exact rfl; exact rfl; exact rfl) | ((with_reducible apply kP_cv); exact rfl; exact rfl; kernel_rfl) | ((with_reducible apply kP_al); exact rfl; exact rfl; exact rfl) | ((with_reducible apply kP_fl); exact rfl; exact rfl; exact rfl) | ((with_reducible apply kP_ex); exact rfl; exact rfl; kernel_rfl; exact rfl) | ((with_reducible apply kP_eg); exact rfl; exact rfl; kernel_rfl; exact rfl) | ((with_reducible refine kP_nl ?_ ?_))) | ((with_reducible show eOk _ _ _ _ _ _); first | (exact eok_nil) | (refine ke_rd ?_ ?_ ?_; exact rfl) | (apply ke_rg; exact rfl; exact rfl) | (refine ke_cv ?_ ?_ ?_ ?_; exact rfl; kernel_rfl) | (apply ke_fl; exact rfl) | (apply ke_al; exact rfl; exact rfl)) | ((with_reducible refine freshIs_new ?_); kernel_rfl) | (simp only [B, xB, F, Nat.reduceLT, Nat.reduceLeDiff, Nat.reduceEqDiff, Nat.reduceAdd, Nat.reduceMul, Nat.reduceSub, ↓reduceIte, eq_self]))); exact hq) : p := f hq
structure Rc where
  m : Nat
  s : Nat
  k : List Nat
  v : List Nat
  c : Nat
  d : Nat
  r : Nat
  t : Bool
def Rc.ok (x : Rc) : Prop := x.m < M64 ∧ x.s < M64 ∧ x.c < M64 ∧ x.d < M64 ∧ x.r < M64
def Rc.av (x : Rc) : AV := .agg [.int .u64 (.ofNat x.m), .int .u64 (.ofNat x.s), .str x.k, .str x.v, .int .u64 (.ofNat x.c), .int .u64 (.ofNat x.d), .int .u64 (.ofNat x.r), .bool x.t]
def kindN (t : Bool) : Nat := if t then 0 else 1
def canL (x : Rc) : List Nat :=
  ((((([] ++ encN x.k.length ++ x.k) ++ encN x.m) ++ encN x.s) ++ encN (kindN x.t)) ++ encN x.v.length ++ x.v) ++ encN x.c ++ encN x.r
theorem kind_lt (t : Bool) : kindN t < M64 := by cases t <;> decide
structure RcAt (h : H) (b : Nat) (m s : Nat) (k v : List Nat) (c d r : Nat) (t : Bool) : Prop where
  c0 : cellAt h b 0 = some (.int .u64 (.ofNat m))
  c1 : cellAt h b 1 = some (.int .u64 (.ofNat s))
  c2 : cellAt h b 2 = some (.str k)
  c3 : cellAt h b 3 = some (.str v)
  c4 : cellAt h b 4 = some (.int .u64 (.ofNat c))
  c5 : cellAt h b 5 = some (.int .u64 (.ofNat d))
  c6 : cellAt h b 6 = some (.int .u64 (.ofNat r))
  c7 : cellAt h b 7 = some (.bool t)
  x : b < h.nx
theorem RcAt.keep {h h' : H} {b m s : Nat} {k v : List Nat} {c d r : Nat} {t : Bool} (a : RcAt h b m s k v c d r t) (o : Og h h' []) : RcAt h' b m s k v c d r t :=
  ⟨kc a.c0 o a.x (by simp), kc a.c1 o a.x (by simp), kc a.c2 o a.x (by simp), kc a.c3 o a.x (by simp), kc a.c4 o a.x (by simp), kc a.c5 o a.x (by simp), kc a.c6 o a.x (by simp), kc a.c7 o a.x (by simp), Nat.lt_of_lt_of_le a.x o.1.1⟩
theorem RcAt.new (h : H) (ty : TypeId) (m s : Nat) (k v : List Nat) (c d r : Nat) (t : Bool) : RcAt (h.newCells ty [.int .u64 (.ofNat m), .int .u64 (.ofNat s), .str k, .str v, .int .u64 (.ofNat c), .int .u64 (.ofNat d), .int .u64 (.ofNat r), .bool t]) h.nx m s k v c d r t := by
  constructor <;> first | (rw [cellAt_new, if_pos rfl]; rfl) | exact Nat.lt_succ_self _
theorem canonC (h : H) (x : Rc) (hx : x.ok) (hk : x.k.length ≤ 60) (hv : x.v.length ≤ 60) : PushC P (.enter 4 [x.av] h) (SaysG h (.str (canL x))) := by
  obtain ⟨m, s, k, v, c, d, r, t⟩ := x
  obtain ⟨q1, q2, q3, q4, q5⟩ := hx
  simp only at q1 q2 q3 q4 q5 hk hv
  have e0 : bytesOf { data := #[] } = [] := rfl
  have l1 := encN_len q1
  have l2 := encN_len q2
  have l3 := encN_len q3
  have l5 := encN_len q5
  have lk := encN_len (n := k.length) (by have : M64 = 18446744073709551616 := rfl; omega)
  have lv := encN_len (n := v.length) (by have : M64 = 18446744073709551616 := rfl; omega)
  have lt := encN_len (kind_lt t)
  have qt := kind_lt t
  obtain ⟨h1, h1e⟩ : ∃ h1, h1 = h.newCells 28 [.int .u64 (.ofNat m), .int .u64 (.ofNat s), .str k, .str v, .int .u64 (.ofNat c), .int .u64 (.ofNat d), .int .u64 (.ofNat r), .bool t] := ⟨_, rfl⟩
  have o1 : Og h h1 [] := by rw [h1e]; exact (Og.refl _ _).new _ _
  have a1 : RcAt h1 h.nx m s k v c d r t := by rw [h1e]; exact RcAt.new _ _ _ _ _ _ _ _ _ _
  obtain ⟨z0, z1, z2, z3, z4, z5, z6, z7, _⟩ := id a1
  unfold canL Rc.av
  cases t
  · obtain ⟨kd, hkd⟩ : ∃ kd, kd = kindN false := ⟨_, rfl⟩
    have hkd : kd = 1 := hkd
    subst hkd
    rw [show kindN false = 1 from rfl] at lt qt ⊢
    refine pushC_of_codeW (fn := Tryz.f4) (c := bodyC Tryz.f4) Tryz.func4 rfl ?_
    show codeW P 4 35 none _ _ _ _ _
    refine codeW_root ?_
    
    repeat' (first | ((with_reducible refine st1 ?_); (conv => whnf); (with_reducible refine ⟨?_⟩)) | ((with_reducible refine st_dp ord4_0 ?_ rfl rfl ?_); exact rfl; (conv => arg 4; whnf); (conv => arg 3; whnf)) | ((with_reducible refine st_dp ord4_1 ?_ rfl rfl ?_); exact rfl; (conv => arg 4; whnf); (conv => arg 3; whnf)) | ((with_reducible refine st_dp ord4_2 ?_ rfl rfl ?_); exact rfl; (conv => arg 4; whnf); (conv => arg 3; whnf)) | ((with_reducible refine retW_intro rfl ?_); (conv => arg 2; whnf)) | ((with_reducible first | refine iB ?_ ?_ | refine gWt ?_ ?_ | refine gWf ?_ ?_ | refine gXt ?_ ?_ | refine gXf ?_ ?_) <;> intro hb <;> (try simp only [hb])) | ((with_reducible show drawP _ _ _ _ _ _ _ _ _); first | ((with_reducible apply kP_rd); exact rfl; exact rfl) | ((with_reducible apply kP_rg); exact rfl; exact rfl; exact rfl) | ((with_reducible apply kP_cv); exact rfl; exact rfl; kernel_rfl) | ((with_reducible apply kP_al); exact rfl; exact rfl; exact rfl) | ((with_reducible apply kP_fl); exact rfl; exact rfl; exact rfl) | ((with_reducible apply kP_ex); exact rfl; exact rfl; kernel_rfl; exact rfl) | ((with_reducible apply kP_eg); exact rfl; exact rfl; kernel_rfl; exact rfl) | ((with_reducible refine kP_nl ?_ ?_))) | ((with_reducible show eOk _ _ _ _ _ _); first | (exact eok_nil) | (refine ke_rd ?_ ?_ ?_; exact rfl) | (apply ke_rg; exact rfl; exact rfl) | (refine ke_cv ?_ ?_ ?_ ?_; exact rfl; kernel_rfl) | (apply ke_fl; exact rfl) | (apply ke_al; exact rfl; exact rfl)) | ((with_reducible refine freshIs_new ?_); kernel_rfl) | (simp only [B, xB, F, Nat.reduceLT, Nat.reduceLeDiff, Nat.reduceEqDiff, Nat.reduceAdd, Nat.reduceMul, Nat.reduceSub, ↓reduceIte, eq_self, ← h1e, z0, z1, z2, z3, z4, z5, z6, z7, e0]))
    refine ((putTextC h1 ([]) k (by omega) (by simp only [List.length_append, List.length_nil]; omega)).call P).mono P ?_
    rintro _ h2 ⟨rfl, p2⟩
    have a2 := a1.keep p2
    obtain ⟨ay0, ay1, ay2, ay3, ay4, ay5, ay6, ay7, _⟩ := id a2
    have t2 := o1.t p2
    repeat' (first | ((with_reducible refine st1 ?_); (conv => whnf); (with_reducible refine ⟨?_⟩)) | ((with_reducible refine st_dp ord4_0 ?_ rfl rfl ?_); exact rfl; (conv => arg 4; whnf); (conv => arg 3; whnf)) | ((with_reducible refine st_dp ord4_1 ?_ rfl rfl ?_); exact rfl; (conv => arg 4; whnf); (conv => arg 3; whnf)) | ((with_reducible refine st_dp ord4_2 ?_ rfl rfl ?_); exact rfl; (conv => arg 4; whnf); (conv => arg 3; whnf)) | ((with_reducible refine retW_intro rfl ?_); (conv => arg 2; whnf)) | ((with_reducible first | refine iB ?_ ?_ | refine gWt ?_ ?_ | refine gWf ?_ ?_ | refine gXt ?_ ?_ | refine gXf ?_ ?_) <;> intro hb <;> (try simp only [hb])) | ((with_reducible show drawP _ _ _ _ _ _ _ _ _); first | ((with_reducible apply kP_rd); exact rfl; exact rfl) | ((with_reducible apply kP_rg); exact rfl; exact rfl; exact rfl) | ((with_reducible apply kP_cv); exact rfl; exact rfl; kernel_rfl) | ((with_reducible apply kP_al); exact rfl; exact rfl; exact rfl) | ((with_reducible apply kP_fl); exact rfl; exact rfl; exact rfl) | ((with_reducible apply kP_ex); exact rfl; exact rfl; kernel_rfl; exact rfl) | ((with_reducible apply kP_eg); exact rfl; exact rfl; kernel_rfl; exact rfl) | ((with_reducible refine kP_nl ?_ ?_))) | ((with_reducible show eOk _ _ _ _ _ _); first | (exact eok_nil) | (refine ke_rd ?_ ?_ ?_; exact rfl) | (apply ke_rg; exact rfl; exact rfl) | (refine ke_cv ?_ ?_ ?_ ?_; exact rfl; kernel_rfl) | (apply ke_fl; exact rfl) | (apply ke_al; exact rfl; exact rfl)) | ((with_reducible refine freshIs_new ?_); kernel_rfl) | (simp only [B, xB, F, Nat.reduceLT, Nat.reduceLeDiff, Nat.reduceEqDiff, Nat.reduceAdd, Nat.reduceMul, Nat.reduceSub, ↓reduceIte, eq_self, z0, z1, z2, z3, z4, z5, z6, z7, ay0, ay1, ay2, ay3, ay4, ay5, ay6, ay7, e0]))
    refine ((putNumC h2 m ([] ++ encN k.length ++ k) q1 (by simp only [List.length_append, List.length_nil]; omega)).call P).mono P ?_
    rintro _ h3 ⟨rfl, p3⟩
    have a3 := a2.keep p3
    obtain ⟨by0, by1, by2, by3, by4, by5, by6, by7, _⟩ := id a3
    have t3 := t2.t p3
    repeat' (first | ((with_reducible refine st1 ?_); (conv => whnf); (with_reducible refine ⟨?_⟩)) | ((with_reducible refine st_dp ord4_0 ?_ rfl rfl ?_); exact rfl; (conv => arg 4; whnf); (conv => arg 3; whnf)) | ((with_reducible refine st_dp ord4_1 ?_ rfl rfl ?_); exact rfl; (conv => arg 4; whnf); (conv => arg 3; whnf)) | ((with_reducible refine st_dp ord4_2 ?_ rfl rfl ?_); exact rfl; (conv => arg 4; whnf); (conv => arg 3; whnf)) | ((with_reducible refine retW_intro rfl ?_); (conv => arg 2; whnf)) | ((with_reducible first | refine iB ?_ ?_ | refine gWt ?_ ?_ | refine gWf ?_ ?_ | refine gXt ?_ ?_ | refine gXf ?_ ?_) <;> intro hb <;> (try simp only [hb])) | ((with_reducible show drawP _ _ _ _ _ _ _ _ _); first | ((with_reducible apply kP_rd); exact rfl; exact rfl) | ((with_reducible apply kP_rg); exact rfl; exact rfl; exact rfl) | ((with_reducible apply kP_cv); exact rfl; exact rfl; kernel_rfl) | ((with_reducible apply kP_al); exact rfl; exact rfl; exact rfl) | ((with_reducible apply kP_fl); exact rfl; exact rfl; exact rfl) | ((with_reducible apply kP_ex); exact rfl; exact rfl; kernel_rfl; exact rfl) | ((with_reducible apply kP_eg); exact rfl; exact rfl; kernel_rfl; exact rfl) | ((with_reducible refine kP_nl ?_ ?_))) | ((with_reducible show eOk _ _ _ _ _ _); first | (exact eok_nil) | (refine ke_rd ?_ ?_ ?_; exact rfl) | (apply ke_rg; exact rfl; exact rfl) | (refine ke_cv ?_ ?_ ?_ ?_; exact rfl; kernel_rfl) | (apply ke_fl; exact rfl) | (apply ke_al; exact rfl; exact rfl)) | ((with_reducible refine freshIs_new ?_); kernel_rfl) | (simp only [B, xB, F, Nat.reduceLT, Nat.reduceLeDiff, Nat.reduceEqDiff, Nat.reduceAdd, Nat.reduceMul, Nat.reduceSub, ↓reduceIte, eq_self, z0, z1, z2, z3, z4, z5, z6, z7, by0, by1, by2, by3, by4, by5, by6, by7, e0]))
    refine ((putNumC h3 s ([] ++ encN k.length ++ k ++ encN m) q2 (by simp only [List.length_append, List.length_nil]; omega)).call P).mono P ?_
    rintro _ h4 ⟨rfl, p4⟩
    have a4 := a3.keep p4
    obtain ⟨cy0, cy1, cy2, cy3, cy4, cy5, cy6, cy7, _⟩ := id a4
    have t4 := t3.t p4
    repeat' (first | ((with_reducible refine st1 ?_); (conv => whnf); (with_reducible refine ⟨?_⟩)) | ((with_reducible refine st_dp ord4_0 ?_ rfl rfl ?_); exact rfl; (conv => arg 4; whnf); (conv => arg 3; whnf)) | ((with_reducible refine st_dp ord4_1 ?_ rfl rfl ?_); exact rfl; (conv => arg 4; whnf); (conv => arg 3; whnf)) | ((with_reducible refine st_dp ord4_2 ?_ rfl rfl ?_); exact rfl; (conv => arg 4; whnf); (conv => arg 3; whnf)) | ((with_reducible refine retW_intro rfl ?_); (conv => arg 2; whnf)) | ((with_reducible first | refine iB ?_ ?_ | refine gWt ?_ ?_ | refine gWf ?_ ?_ | refine gXt ?_ ?_ | refine gXf ?_ ?_) <;> intro hb <;> (try simp only [hb])) | ((with_reducible show drawP _ _ _ _ _ _ _ _ _); first | ((with_reducible apply kP_rd); exact rfl; exact rfl) | ((with_reducible apply kP_rg); exact rfl; exact rfl; exact rfl) | ((with_reducible apply kP_cv); exact rfl; exact rfl; kernel_rfl) | ((with_reducible apply kP_al); exact rfl; exact rfl; exact rfl) | ((with_reducible apply kP_fl); exact rfl; exact rfl; exact rfl) | ((with_reducible apply kP_ex); exact rfl; exact rfl; kernel_rfl; exact rfl) | ((with_reducible apply kP_eg); exact rfl; exact rfl; kernel_rfl; exact rfl) | ((with_reducible refine kP_nl ?_ ?_))) | ((with_reducible show eOk _ _ _ _ _ _); first | (exact eok_nil) | (refine ke_rd ?_ ?_ ?_; exact rfl) | (apply ke_rg; exact rfl; exact rfl) | (refine ke_cv ?_ ?_ ?_ ?_; exact rfl; kernel_rfl) | (apply ke_fl; exact rfl) | (apply ke_al; exact rfl; exact rfl)) | ((with_reducible refine freshIs_new ?_); kernel_rfl) | (simp only [B, xB, F, Nat.reduceLT, Nat.reduceLeDiff, Nat.reduceEqDiff, Nat.reduceAdd, Nat.reduceMul, Nat.reduceSub, ↓reduceIte, eq_self, z0, z1, z2, z3, z4, z5, z6, z7, cy0, cy1, cy2, cy3, cy4, cy5, cy6, cy7, e0]))
    refine ((putNumC h4 1 ([] ++ encN k.length ++ k ++ encN m ++ encN s) qt (by simp only [List.length_append, List.length_nil]; omega)).call P).mono P ?_
    rintro _ h5 ⟨rfl, p5⟩
    have a5 := a4.keep p5
    obtain ⟨dy0, dy1, dy2, dy3, dy4, dy5, dy6, dy7, _⟩ := id a5
    have t5 := t4.t p5
    repeat' (first | ((with_reducible refine st1 ?_); (conv => whnf); (with_reducible refine ⟨?_⟩)) | ((with_reducible refine st_dp ord4_0 ?_ rfl rfl ?_); exact rfl; (conv => arg 4; whnf); (conv => arg 3; whnf)) | ((with_reducible refine st_dp ord4_1 ?_ rfl rfl ?_); exact rfl; (conv => arg 4; whnf); (conv => arg 3; whnf)) | ((with_reducible refine st_dp ord4_2 ?_ rfl rfl ?_); exact rfl; (conv => arg 4; whnf); (conv => arg 3; whnf)) | ((with_reducible refine retW_intro rfl ?_); (conv => arg 2; whnf)) | ((with_reducible first | refine iB ?_ ?_ | refine gWt ?_ ?_ | refine gWf ?_ ?_ | refine gXt ?_ ?_ | refine gXf ?_ ?_) <;> intro hb <;> (try simp only [hb])) | ((with_reducible show drawP _ _ _ _ _ _ _ _ _); first | ((with_reducible apply kP_rd); exact rfl; exact rfl) | ((with_reducible apply kP_rg); exact rfl; exact rfl; exact rfl) | ((with_reducible apply kP_cv); exact rfl; exact rfl; kernel_rfl) | ((with_reducible apply kP_al); exact rfl; exact rfl; exact rfl) | ((with_reducible apply kP_fl); exact rfl; exact rfl; exact rfl) | ((with_reducible apply kP_ex); exact rfl; exact rfl; kernel_rfl; exact rfl) | ((with_reducible apply kP_eg); exact rfl; exact rfl; kernel_rfl; exact rfl) | ((with_reducible refine kP_nl ?_ ?_))) | ((with_reducible show eOk _ _ _ _ _ _); first | (exact eok_nil) | (refine ke_rd ?_ ?_ ?_; exact rfl) | (apply ke_rg; exact rfl; exact rfl) | (refine ke_cv ?_ ?_ ?_ ?_; exact rfl; kernel_rfl) | (apply ke_fl; exact rfl) | (apply ke_al; exact rfl; exact rfl)) | ((with_reducible refine freshIs_new ?_); kernel_rfl) | (simp only [B, xB, F, Nat.reduceLT, Nat.reduceLeDiff, Nat.reduceEqDiff, Nat.reduceAdd, Nat.reduceMul, Nat.reduceSub, ↓reduceIte, eq_self, z0, z1, z2, z3, z4, z5, z6, z7, dy0, dy1, dy2, dy3, dy4, dy5, dy6, dy7, e0]))
    refine ((putTextC h5 ([] ++ encN k.length ++ k ++ encN m ++ encN s ++ encN 1) v (by omega) (by simp only [List.length_append, List.length_nil]; omega)).call P).mono P ?_
    rintro _ h6 ⟨rfl, p6⟩
    have a6 := a5.keep p6
    obtain ⟨ey0, ey1, ey2, ey3, ey4, ey5, ey6, ey7, _⟩ := id a6
    have t6 := t5.t p6
    repeat' (first | ((with_reducible refine st1 ?_); (conv => whnf); (with_reducible refine ⟨?_⟩)) | ((with_reducible refine st_dp ord4_0 ?_ rfl rfl ?_); exact rfl; (conv => arg 4; whnf); (conv => arg 3; whnf)) | ((with_reducible refine st_dp ord4_1 ?_ rfl rfl ?_); exact rfl; (conv => arg 4; whnf); (conv => arg 3; whnf)) | ((with_reducible refine st_dp ord4_2 ?_ rfl rfl ?_); exact rfl; (conv => arg 4; whnf); (conv => arg 3; whnf)) | ((with_reducible refine retW_intro rfl ?_); (conv => arg 2; whnf)) | ((with_reducible first | refine iB ?_ ?_ | refine gWt ?_ ?_ | refine gWf ?_ ?_ | refine gXt ?_ ?_ | refine gXf ?_ ?_) <;> intro hb <;> (try simp only [hb])) | ((with_reducible show drawP _ _ _ _ _ _ _ _ _); first | ((with_reducible apply kP_rd); exact rfl; exact rfl) | ((with_reducible apply kP_rg); exact rfl; exact rfl; exact rfl) | ((with_reducible apply kP_cv); exact rfl; exact rfl; kernel_rfl) | ((with_reducible apply kP_al); exact rfl; exact rfl; exact rfl) | ((with_reducible apply kP_fl); exact rfl; exact rfl; exact rfl) | ((with_reducible apply kP_ex); exact rfl; exact rfl; kernel_rfl; exact rfl) | ((with_reducible apply kP_eg); exact rfl; exact rfl; kernel_rfl; exact rfl) | ((with_reducible refine kP_nl ?_ ?_))) | ((with_reducible show eOk _ _ _ _ _ _); first | (exact eok_nil) | (refine ke_rd ?_ ?_ ?_; exact rfl) | (apply ke_rg; exact rfl; exact rfl) | (refine ke_cv ?_ ?_ ?_ ?_; exact rfl; kernel_rfl) | (apply ke_fl; exact rfl) | (apply ke_al; exact rfl; exact rfl)) | ((with_reducible refine freshIs_new ?_); kernel_rfl) | (simp only [B, xB, F, Nat.reduceLT, Nat.reduceLeDiff, Nat.reduceEqDiff, Nat.reduceAdd, Nat.reduceMul, Nat.reduceSub, ↓reduceIte, eq_self, z0, z1, z2, z3, z4, z5, z6, z7, ey0, ey1, ey2, ey3, ey4, ey5, ey6, ey7, e0]))
    refine ((putNumC h6 c ([] ++ encN k.length ++ k ++ encN m ++ encN s ++ encN 1 ++ encN v.length ++ v) q3 (by simp only [List.length_append, List.length_nil]; omega)).call P).mono P ?_
    rintro _ h7 ⟨rfl, p7⟩
    have a7 := a6.keep p7
    obtain ⟨fy0, fy1, fy2, fy3, fy4, fy5, fy6, fy7, _⟩ := id a7
    have t7 := t6.t p7
    repeat' (first | ((with_reducible refine st1 ?_); (conv => whnf); (with_reducible refine ⟨?_⟩)) | ((with_reducible refine st_dp ord4_0 ?_ rfl rfl ?_); exact rfl; (conv => arg 4; whnf); (conv => arg 3; whnf)) | ((with_reducible refine st_dp ord4_1 ?_ rfl rfl ?_); exact rfl; (conv => arg 4; whnf); (conv => arg 3; whnf)) | ((with_reducible refine st_dp ord4_2 ?_ rfl rfl ?_); exact rfl; (conv => arg 4; whnf); (conv => arg 3; whnf)) | ((with_reducible refine retW_intro rfl ?_); (conv => arg 2; whnf)) | ((with_reducible first | refine iB ?_ ?_ | refine gWt ?_ ?_ | refine gWf ?_ ?_ | refine gXt ?_ ?_ | refine gXf ?_ ?_) <;> intro hb <;> (try simp only [hb])) | ((with_reducible show drawP _ _ _ _ _ _ _ _ _); first | ((with_reducible apply kP_rd); exact rfl; exact rfl) | ((with_reducible apply kP_rg); exact rfl; exact rfl; exact rfl) | ((with_reducible apply kP_cv); exact rfl; exact rfl; kernel_rfl) | ((with_reducible apply kP_al); exact rfl; exact rfl; exact rfl) | ((with_reducible apply kP_fl); exact rfl; exact rfl; exact rfl) | ((with_reducible apply kP_ex); exact rfl; exact rfl; kernel_rfl; exact rfl) | ((with_reducible apply kP_eg); exact rfl; exact rfl; kernel_rfl; exact rfl) | ((with_reducible refine kP_nl ?_ ?_))) | ((with_reducible show eOk _ _ _ _ _ _); first | (exact eok_nil) | (refine ke_rd ?_ ?_ ?_; exact rfl) | (apply ke_rg; exact rfl; exact rfl) | (refine ke_cv ?_ ?_ ?_ ?_; exact rfl; kernel_rfl) | (apply ke_fl; exact rfl) | (apply ke_al; exact rfl; exact rfl)) | ((with_reducible refine freshIs_new ?_); kernel_rfl) | (simp only [B, xB, F, Nat.reduceLT, Nat.reduceLeDiff, Nat.reduceEqDiff, Nat.reduceAdd, Nat.reduceMul, Nat.reduceSub, ↓reduceIte, eq_self, z0, z1, z2, z3, z4, z5, z6, z7, fy0, fy1, fy2, fy3, fy4, fy5, fy6, fy7, e0]))
    refine ((putNumC h7 r ([] ++ encN k.length ++ k ++ encN m ++ encN s ++ encN 1 ++ encN v.length ++ v ++ encN c) q5 (by simp only [List.length_append, List.length_nil]; omega)).call P).mono P ?_
    rintro _ h8 ⟨rfl, p8⟩
    have a8 := a7.keep p8
    obtain ⟨gy0, gy1, gy2, gy3, gy4, gy5, gy6, gy7, _⟩ := id a8
    have t8 := t7.t p8
    repeat' (first | ((with_reducible refine st1 ?_); (conv => whnf); (with_reducible refine ⟨?_⟩)) | ((with_reducible refine st_dp ord4_0 ?_ rfl rfl ?_); exact rfl; (conv => arg 4; whnf); (conv => arg 3; whnf)) | ((with_reducible refine st_dp ord4_1 ?_ rfl rfl ?_); exact rfl; (conv => arg 4; whnf); (conv => arg 3; whnf)) | ((with_reducible refine st_dp ord4_2 ?_ rfl rfl ?_); exact rfl; (conv => arg 4; whnf); (conv => arg 3; whnf)) | ((with_reducible refine retW_intro rfl ?_); (conv => arg 2; whnf)) | ((with_reducible first | refine iB ?_ ?_ | refine gWt ?_ ?_ | refine gWf ?_ ?_ | refine gXt ?_ ?_ | refine gXf ?_ ?_) <;> intro hb <;> (try simp only [hb])) | ((with_reducible show drawP _ _ _ _ _ _ _ _ _); first | ((with_reducible apply kP_rd); exact rfl; exact rfl) | ((with_reducible apply kP_rg); exact rfl; exact rfl; exact rfl) | ((with_reducible apply kP_cv); exact rfl; exact rfl; kernel_rfl) | ((with_reducible apply kP_al); exact rfl; exact rfl; exact rfl) | ((with_reducible apply kP_fl); exact rfl; exact rfl; exact rfl) | ((with_reducible apply kP_ex); exact rfl; exact rfl; kernel_rfl; exact rfl) | ((with_reducible apply kP_eg); exact rfl; exact rfl; kernel_rfl; exact rfl) | ((with_reducible refine kP_nl ?_ ?_))) | ((with_reducible show eOk _ _ _ _ _ _); first | (exact eok_nil) | (refine ke_rd ?_ ?_ ?_; exact rfl) | (apply ke_rg; exact rfl; exact rfl) | (refine ke_cv ?_ ?_ ?_ ?_; exact rfl; kernel_rfl) | (apply ke_fl; exact rfl) | (apply ke_al; exact rfl; exact rfl)) | ((with_reducible refine freshIs_new ?_); kernel_rfl) | (simp only [B, xB, F, Nat.reduceLT, Nat.reduceLeDiff, Nat.reduceEqDiff, Nat.reduceAdd, Nat.reduceMul, Nat.reduceSub, ↓reduceIte, eq_self, z0, z1, z2, z3, z4, z5, z6, z7, gy0, gy1, gy2, gy3, gy4, gy5, gy6, gy7, e0]))
    exact ⟨rfl, t8⟩
  · obtain ⟨kd, hkd⟩ : ∃ kd, kd = kindN true := ⟨_, rfl⟩
    have hkd : kd = 0 := hkd
    subst hkd
    rw [show kindN true = 0 from rfl] at lt qt ⊢
    refine pushC_of_codeW (fn := Tryz.f4) (c := bodyC Tryz.f4) Tryz.func4 rfl ?_
    show codeW P 4 35 none _ _ _ _ _
    refine codeW_root ?_
    
    repeat' (first | ((with_reducible refine st1 ?_); (conv => whnf); (with_reducible refine ⟨?_⟩)) | ((with_reducible refine st_dp ord4_0 ?_ rfl rfl ?_); exact rfl; (conv => arg 4; whnf); (conv => arg 3; whnf)) | ((with_reducible refine st_dp ord4_1 ?_ rfl rfl ?_); exact rfl; (conv => arg 4; whnf); (conv => arg 3; whnf)) | ((with_reducible refine st_dp ord4_2 ?_ rfl rfl ?_); exact rfl; (conv => arg 4; whnf); (conv => arg 3; whnf)) | ((with_reducible refine retW_intro rfl ?_); (conv => arg 2; whnf)) | ((with_reducible first | refine iB ?_ ?_ | refine gWt ?_ ?_ | refine gWf ?_ ?_ | refine gXt ?_ ?_ | refine gXf ?_ ?_) <;> intro hb <;> (try simp only [hb])) | ((with_reducible show drawP _ _ _ _ _ _ _ _ _); first | ((with_reducible apply kP_rd); exact rfl; exact rfl) | ((with_reducible apply kP_rg); exact rfl; exact rfl; exact rfl) | ((with_reducible apply kP_cv); exact rfl; exact rfl; kernel_rfl) | ((with_reducible apply kP_al); exact rfl; exact rfl; exact rfl) | ((with_reducible apply kP_fl); exact rfl; exact rfl; exact rfl) | ((with_reducible apply kP_ex); exact rfl; exact rfl; kernel_rfl; exact rfl) | ((with_reducible apply kP_eg); exact rfl; exact rfl; kernel_rfl; exact rfl) | ((with_reducible refine kP_nl ?_ ?_))) | ((with_reducible show eOk _ _ _ _ _ _); first | (exact eok_nil) | (refine ke_rd ?_ ?_ ?_; exact rfl) | (apply ke_rg; exact rfl; exact rfl) | (refine ke_cv ?_ ?_ ?_ ?_; exact rfl; kernel_rfl) | (apply ke_fl; exact rfl) | (apply ke_al; exact rfl; exact rfl)) | ((with_reducible refine freshIs_new ?_); kernel_rfl) | (simp only [B, xB, F, Nat.reduceLT, Nat.reduceLeDiff, Nat.reduceEqDiff, Nat.reduceAdd, Nat.reduceMul, Nat.reduceSub, ↓reduceIte, eq_self, ← h1e, z0, z1, z2, z3, z4, z5, z6, z7, e0]))
    refine ((putTextC h1 ([]) k (by omega) (by simp only [List.length_append, List.length_nil]; omega)).call P).mono P ?_
    rintro _ h2 ⟨rfl, p2⟩
    have a2 := a1.keep p2
    obtain ⟨ay0, ay1, ay2, ay3, ay4, ay5, ay6, ay7, _⟩ := id a2
    have t2 := o1.t p2
    repeat' (first | ((with_reducible refine st1 ?_); (conv => whnf); (with_reducible refine ⟨?_⟩)) | ((with_reducible refine st_dp ord4_0 ?_ rfl rfl ?_); exact rfl; (conv => arg 4; whnf); (conv => arg 3; whnf)) | ((with_reducible refine st_dp ord4_1 ?_ rfl rfl ?_); exact rfl; (conv => arg 4; whnf); (conv => arg 3; whnf)) | ((with_reducible refine st_dp ord4_2 ?_ rfl rfl ?_); exact rfl; (conv => arg 4; whnf); (conv => arg 3; whnf)) | ((with_reducible refine retW_intro rfl ?_); (conv => arg 2; whnf)) | ((with_reducible first | refine iB ?_ ?_ | refine gWt ?_ ?_ | refine gWf ?_ ?_ | refine gXt ?_ ?_ | refine gXf ?_ ?_) <;> intro hb <;> (try simp only [hb])) | ((with_reducible show drawP _ _ _ _ _ _ _ _ _); first | ((with_reducible apply kP_rd); exact rfl; exact rfl) | ((with_reducible apply kP_rg); exact rfl; exact rfl; exact rfl) | ((with_reducible apply kP_cv); exact rfl; exact rfl; kernel_rfl) | ((with_reducible apply kP_al); exact rfl; exact rfl; exact rfl) | ((with_reducible apply kP_fl); exact rfl; exact rfl; exact rfl) | ((with_reducible apply kP_ex); exact rfl; exact rfl; kernel_rfl; exact rfl) | ((with_reducible apply kP_eg); exact rfl; exact rfl; kernel_rfl; exact rfl) | ((with_reducible refine kP_nl ?_ ?_))) | ((with_reducible show eOk _ _ _ _ _ _); first | (exact eok_nil) | (refine ke_rd ?_ ?_ ?_; exact rfl) | (apply ke_rg; exact rfl; exact rfl) | (refine ke_cv ?_ ?_ ?_ ?_; exact rfl; kernel_rfl) | (apply ke_fl; exact rfl) | (apply ke_al; exact rfl; exact rfl)) | ((with_reducible refine freshIs_new ?_); kernel_rfl) | (simp only [B, xB, F, Nat.reduceLT, Nat.reduceLeDiff, Nat.reduceEqDiff, Nat.reduceAdd, Nat.reduceMul, Nat.reduceSub, ↓reduceIte, eq_self, z0, z1, z2, z3, z4, z5, z6, z7, ay0, ay1, ay2, ay3, ay4, ay5, ay6, ay7, e0]))
    refine ((putNumC h2 m ([] ++ encN k.length ++ k) q1 (by simp only [List.length_append, List.length_nil]; omega)).call P).mono P ?_
    rintro _ h3 ⟨rfl, p3⟩
    have a3 := a2.keep p3
    obtain ⟨by0, by1, by2, by3, by4, by5, by6, by7, _⟩ := id a3
    have t3 := t2.t p3
    repeat' (first | ((with_reducible refine st1 ?_); (conv => whnf); (with_reducible refine ⟨?_⟩)) | ((with_reducible refine st_dp ord4_0 ?_ rfl rfl ?_); exact rfl; (conv => arg 4; whnf); (conv => arg 3; whnf)) | ((with_reducible refine st_dp ord4_1 ?_ rfl rfl ?_); exact rfl; (conv => arg 4; whnf); (conv => arg 3; whnf)) | ((with_reducible refine st_dp ord4_2 ?_ rfl rfl ?_); exact rfl; (conv => arg 4; whnf); (conv => arg 3; whnf)) | ((with_reducible refine retW_intro rfl ?_); (conv => arg 2; whnf)) | ((with_reducible first | refine iB ?_ ?_ | refine gWt ?_ ?_ | refine gWf ?_ ?_ | refine gXt ?_ ?_ | refine gXf ?_ ?_) <;> intro hb <;> (try simp only [hb])) | ((with_reducible show drawP _ _ _ _ _ _ _ _ _); first | ((with_reducible apply kP_rd); exact rfl; exact rfl) | ((with_reducible apply kP_rg); exact rfl; exact rfl; exact rfl) | ((with_reducible apply kP_cv); exact rfl; exact rfl; kernel_rfl) | ((with_reducible apply kP_al); exact rfl; exact rfl; exact rfl) | ((with_reducible apply kP_fl); exact rfl; exact rfl; exact rfl) | ((with_reducible apply kP_ex); exact rfl; exact rfl; kernel_rfl; exact rfl) | ((with_reducible apply kP_eg); exact rfl; exact rfl; kernel_rfl; exact rfl) | ((with_reducible refine kP_nl ?_ ?_))) | ((with_reducible show eOk _ _ _ _ _ _); first | (exact eok_nil) | (refine ke_rd ?_ ?_ ?_; exact rfl) | (apply ke_rg; exact rfl; exact rfl) | (refine ke_cv ?_ ?_ ?_ ?_; exact rfl; kernel_rfl) | (apply ke_fl; exact rfl) | (apply ke_al; exact rfl; exact rfl)) | ((with_reducible refine freshIs_new ?_); kernel_rfl) | (simp only [B, xB, F, Nat.reduceLT, Nat.reduceLeDiff, Nat.reduceEqDiff, Nat.reduceAdd, Nat.reduceMul, Nat.reduceSub, ↓reduceIte, eq_self, z0, z1, z2, z3, z4, z5, z6, z7, by0, by1, by2, by3, by4, by5, by6, by7, e0]))
    refine ((putNumC h3 s ([] ++ encN k.length ++ k ++ encN m) q2 (by simp only [List.length_append, List.length_nil]; omega)).call P).mono P ?_
    rintro _ h4 ⟨rfl, p4⟩
    have a4 := a3.keep p4
    obtain ⟨cy0, cy1, cy2, cy3, cy4, cy5, cy6, cy7, _⟩ := id a4
    have t4 := t3.t p4
    repeat' (first | ((with_reducible refine st1 ?_); (conv => whnf); (with_reducible refine ⟨?_⟩)) | ((with_reducible refine st_dp ord4_0 ?_ rfl rfl ?_); exact rfl; (conv => arg 4; whnf); (conv => arg 3; whnf)) | ((with_reducible refine st_dp ord4_1 ?_ rfl rfl ?_); exact rfl; (conv => arg 4; whnf); (conv => arg 3; whnf)) | ((with_reducible refine st_dp ord4_2 ?_ rfl rfl ?_); exact rfl; (conv => arg 4; whnf); (conv => arg 3; whnf)) | ((with_reducible refine retW_intro rfl ?_); (conv => arg 2; whnf)) | ((with_reducible first | refine iB ?_ ?_ | refine gWt ?_ ?_ | refine gWf ?_ ?_ | refine gXt ?_ ?_ | refine gXf ?_ ?_) <;> intro hb <;> (try simp only [hb])) | ((with_reducible show drawP _ _ _ _ _ _ _ _ _); first | ((with_reducible apply kP_rd); exact rfl; exact rfl) | ((with_reducible apply kP_rg); exact rfl; exact rfl; exact rfl) | ((with_reducible apply kP_cv); exact rfl; exact rfl; kernel_rfl) | ((with_reducible apply kP_al); exact rfl; exact rfl; exact rfl) | ((with_reducible apply kP_fl); exact rfl; exact rfl; exact rfl) | ((with_reducible apply kP_ex); exact rfl; exact rfl; kernel_rfl; exact rfl) | ((with_reducible apply kP_eg); exact rfl; exact rfl; kernel_rfl; exact rfl) | ((with_reducible refine kP_nl ?_ ?_))) | ((with_reducible show eOk _ _ _ _ _ _); first | (exact eok_nil) | (refine ke_rd ?_ ?_ ?_; exact rfl) | (apply ke_rg; exact rfl; exact rfl) | (refine ke_cv ?_ ?_ ?_ ?_; exact rfl; kernel_rfl) | (apply ke_fl; exact rfl) | (apply ke_al; exact rfl; exact rfl)) | ((with_reducible refine freshIs_new ?_); kernel_rfl) | (simp only [B, xB, F, Nat.reduceLT, Nat.reduceLeDiff, Nat.reduceEqDiff, Nat.reduceAdd, Nat.reduceMul, Nat.reduceSub, ↓reduceIte, eq_self, z0, z1, z2, z3, z4, z5, z6, z7, cy0, cy1, cy2, cy3, cy4, cy5, cy6, cy7, e0]))
    refine ((putNumC h4 0 ([] ++ encN k.length ++ k ++ encN m ++ encN s) qt (by simp only [List.length_append, List.length_nil]; omega)).call P).mono P ?_
    rintro _ h5 ⟨rfl, p5⟩
    have a5 := a4.keep p5
    obtain ⟨dy0, dy1, dy2, dy3, dy4, dy5, dy6, dy7, _⟩ := id a5
    have t5 := t4.t p5
    repeat' (first | ((with_reducible refine st1 ?_); (conv => whnf); (with_reducible refine ⟨?_⟩)) | ((with_reducible refine st_dp ord4_0 ?_ rfl rfl ?_); exact rfl; (conv => arg 4; whnf); (conv => arg 3; whnf)) | ((with_reducible refine st_dp ord4_1 ?_ rfl rfl ?_); exact rfl; (conv => arg 4; whnf); (conv => arg 3; whnf)) | ((with_reducible refine st_dp ord4_2 ?_ rfl rfl ?_); exact rfl; (conv => arg 4; whnf); (conv => arg 3; whnf)) | ((with_reducible refine retW_intro rfl ?_); (conv => arg 2; whnf)) | ((with_reducible first | refine iB ?_ ?_ | refine gWt ?_ ?_ | refine gWf ?_ ?_ | refine gXt ?_ ?_ | refine gXf ?_ ?_) <;> intro hb <;> (try simp only [hb])) | ((with_reducible show drawP _ _ _ _ _ _ _ _ _); first | ((with_reducible apply kP_rd); exact rfl; exact rfl) | ((with_reducible apply kP_rg); exact rfl; exact rfl; exact rfl) | ((with_reducible apply kP_cv); exact rfl; exact rfl; kernel_rfl) | ((with_reducible apply kP_al); exact rfl; exact rfl; exact rfl) | ((with_reducible apply kP_fl); exact rfl; exact rfl; exact rfl) | ((with_reducible apply kP_ex); exact rfl; exact rfl; kernel_rfl; exact rfl) | ((with_reducible apply kP_eg); exact rfl; exact rfl; kernel_rfl; exact rfl) | ((with_reducible refine kP_nl ?_ ?_))) | ((with_reducible show eOk _ _ _ _ _ _); first | (exact eok_nil) | (refine ke_rd ?_ ?_ ?_; exact rfl) | (apply ke_rg; exact rfl; exact rfl) | (refine ke_cv ?_ ?_ ?_ ?_; exact rfl; kernel_rfl) | (apply ke_fl; exact rfl) | (apply ke_al; exact rfl; exact rfl)) | ((with_reducible refine freshIs_new ?_); kernel_rfl) | (simp only [B, xB, F, Nat.reduceLT, Nat.reduceLeDiff, Nat.reduceEqDiff, Nat.reduceAdd, Nat.reduceMul, Nat.reduceSub, ↓reduceIte, eq_self, z0, z1, z2, z3, z4, z5, z6, z7, dy0, dy1, dy2, dy3, dy4, dy5, dy6, dy7, e0]))
    refine ((putTextC h5 ([] ++ encN k.length ++ k ++ encN m ++ encN s ++ encN 0) v (by omega) (by simp only [List.length_append, List.length_nil]; omega)).call P).mono P ?_
    rintro _ h6 ⟨rfl, p6⟩
    have a6 := a5.keep p6
    obtain ⟨ey0, ey1, ey2, ey3, ey4, ey5, ey6, ey7, _⟩ := id a6
    have t6 := t5.t p6
    repeat' (first | ((with_reducible refine st1 ?_); (conv => whnf); (with_reducible refine ⟨?_⟩)) | ((with_reducible refine st_dp ord4_0 ?_ rfl rfl ?_); exact rfl; (conv => arg 4; whnf); (conv => arg 3; whnf)) | ((with_reducible refine st_dp ord4_1 ?_ rfl rfl ?_); exact rfl; (conv => arg 4; whnf); (conv => arg 3; whnf)) | ((with_reducible refine st_dp ord4_2 ?_ rfl rfl ?_); exact rfl; (conv => arg 4; whnf); (conv => arg 3; whnf)) | ((with_reducible refine retW_intro rfl ?_); (conv => arg 2; whnf)) | ((with_reducible first | refine iB ?_ ?_ | refine gWt ?_ ?_ | refine gWf ?_ ?_ | refine gXt ?_ ?_ | refine gXf ?_ ?_) <;> intro hb <;> (try simp only [hb])) | ((with_reducible show drawP _ _ _ _ _ _ _ _ _); first | ((with_reducible apply kP_rd); exact rfl; exact rfl) | ((with_reducible apply kP_rg); exact rfl; exact rfl; exact rfl) | ((with_reducible apply kP_cv); exact rfl; exact rfl; kernel_rfl) | ((with_reducible apply kP_al); exact rfl; exact rfl; exact rfl) | ((with_reducible apply kP_fl); exact rfl; exact rfl; exact rfl) | ((with_reducible apply kP_ex); exact rfl; exact rfl; kernel_rfl; exact rfl) | ((with_reducible apply kP_eg); exact rfl; exact rfl; kernel_rfl; exact rfl) | ((with_reducible refine kP_nl ?_ ?_))) | ((with_reducible show eOk _ _ _ _ _ _); first | (exact eok_nil) | (refine ke_rd ?_ ?_ ?_; exact rfl) | (apply ke_rg; exact rfl; exact rfl) | (refine ke_cv ?_ ?_ ?_ ?_; exact rfl; kernel_rfl) | (apply ke_fl; exact rfl) | (apply ke_al; exact rfl; exact rfl)) | ((with_reducible refine freshIs_new ?_); kernel_rfl) | (simp only [B, xB, F, Nat.reduceLT, Nat.reduceLeDiff, Nat.reduceEqDiff, Nat.reduceAdd, Nat.reduceMul, Nat.reduceSub, ↓reduceIte, eq_self, z0, z1, z2, z3, z4, z5, z6, z7, ey0, ey1, ey2, ey3, ey4, ey5, ey6, ey7, e0]))
    refine ((putNumC h6 c ([] ++ encN k.length ++ k ++ encN m ++ encN s ++ encN 0 ++ encN v.length ++ v) q3 (by simp only [List.length_append, List.length_nil]; omega)).call P).mono P ?_
    rintro _ h7 ⟨rfl, p7⟩
    have a7 := a6.keep p7
    obtain ⟨fy0, fy1, fy2, fy3, fy4, fy5, fy6, fy7, _⟩ := id a7
    have t7 := t6.t p7
    repeat' (first | ((with_reducible refine st1 ?_); (conv => whnf); (with_reducible refine ⟨?_⟩)) | ((with_reducible refine st_dp ord4_0 ?_ rfl rfl ?_); exact rfl; (conv => arg 4; whnf); (conv => arg 3; whnf)) | ((with_reducible refine st_dp ord4_1 ?_ rfl rfl ?_); exact rfl; (conv => arg 4; whnf); (conv => arg 3; whnf)) | ((with_reducible refine st_dp ord4_2 ?_ rfl rfl ?_); exact rfl; (conv => arg 4; whnf); (conv => arg 3; whnf)) | ((with_reducible refine retW_intro rfl ?_); (conv => arg 2; whnf)) | ((with_reducible first | refine iB ?_ ?_ | refine gWt ?_ ?_ | refine gWf ?_ ?_ | refine gXt ?_ ?_ | refine gXf ?_ ?_) <;> intro hb <;> (try simp only [hb])) | ((with_reducible show drawP _ _ _ _ _ _ _ _ _); first | ((with_reducible apply kP_rd); exact rfl; exact rfl) | ((with_reducible apply kP_rg); exact rfl; exact rfl; exact rfl) | ((with_reducible apply kP_cv); exact rfl; exact rfl; kernel_rfl) | ((with_reducible apply kP_al); exact rfl; exact rfl; exact rfl) | ((with_reducible apply kP_fl); exact rfl; exact rfl; exact rfl) | ((with_reducible apply kP_ex); exact rfl; exact rfl; kernel_rfl; exact rfl) | ((with_reducible apply kP_eg); exact rfl; exact rfl; kernel_rfl; exact rfl) | ((with_reducible refine kP_nl ?_ ?_))) | ((with_reducible show eOk _ _ _ _ _ _); first | (exact eok_nil) | (refine ke_rd ?_ ?_ ?_; exact rfl) | (apply ke_rg; exact rfl; exact rfl) | (refine ke_cv ?_ ?_ ?_ ?_; exact rfl; kernel_rfl) | (apply ke_fl; exact rfl) | (apply ke_al; exact rfl; exact rfl)) | ((with_reducible refine freshIs_new ?_); kernel_rfl) | (simp only [B, xB, F, Nat.reduceLT, Nat.reduceLeDiff, Nat.reduceEqDiff, Nat.reduceAdd, Nat.reduceMul, Nat.reduceSub, ↓reduceIte, eq_self, z0, z1, z2, z3, z4, z5, z6, z7, fy0, fy1, fy2, fy3, fy4, fy5, fy6, fy7, e0]))
    refine ((putNumC h7 r ([] ++ encN k.length ++ k ++ encN m ++ encN s ++ encN 0 ++ encN v.length ++ v ++ encN c) q5 (by simp only [List.length_append, List.length_nil]; omega)).call P).mono P ?_
    rintro _ h8 ⟨rfl, p8⟩
    have a8 := a7.keep p8
    obtain ⟨gy0, gy1, gy2, gy3, gy4, gy5, gy6, gy7, _⟩ := id a8
    have t8 := t7.t p8
    repeat' (first | ((with_reducible refine st1 ?_); (conv => whnf); (with_reducible refine ⟨?_⟩)) | ((with_reducible refine st_dp ord4_0 ?_ rfl rfl ?_); exact rfl; (conv => arg 4; whnf); (conv => arg 3; whnf)) | ((with_reducible refine st_dp ord4_1 ?_ rfl rfl ?_); exact rfl; (conv => arg 4; whnf); (conv => arg 3; whnf)) | ((with_reducible refine st_dp ord4_2 ?_ rfl rfl ?_); exact rfl; (conv => arg 4; whnf); (conv => arg 3; whnf)) | ((with_reducible refine retW_intro rfl ?_); (conv => arg 2; whnf)) | ((with_reducible first | refine iB ?_ ?_ | refine gWt ?_ ?_ | refine gWf ?_ ?_ | refine gXt ?_ ?_ | refine gXf ?_ ?_) <;> intro hb <;> (try simp only [hb])) | ((with_reducible show drawP _ _ _ _ _ _ _ _ _); first | ((with_reducible apply kP_rd); exact rfl; exact rfl) | ((with_reducible apply kP_rg); exact rfl; exact rfl; exact rfl) | ((with_reducible apply kP_cv); exact rfl; exact rfl; kernel_rfl) | ((with_reducible apply kP_al); exact rfl; exact rfl; exact rfl) | ((with_reducible apply kP_fl); exact rfl; exact rfl; exact rfl) | ((with_reducible apply kP_ex); exact rfl; exact rfl; kernel_rfl; exact rfl) | ((with_reducible apply kP_eg); exact rfl; exact rfl; kernel_rfl; exact rfl) | ((with_reducible refine kP_nl ?_ ?_))) | ((with_reducible show eOk _ _ _ _ _ _); first | (exact eok_nil) | (refine ke_rd ?_ ?_ ?_; exact rfl) | (apply ke_rg; exact rfl; exact rfl) | (refine ke_cv ?_ ?_ ?_ ?_; exact rfl; kernel_rfl) | (apply ke_fl; exact rfl) | (apply ke_al; exact rfl; exact rfl)) | ((with_reducible refine freshIs_new ?_); kernel_rfl) | (simp only [B, xB, F, Nat.reduceLT, Nat.reduceLeDiff, Nat.reduceEqDiff, Nat.reduceAdd, Nat.reduceMul, Nat.reduceSub, ↓reduceIte, eq_self, z0, z1, z2, z3, z4, z5, z6, z7, gy0, gy1, gy2, gy3, gy4, gy5, gy6, gy7, e0]))
    exact ⟨rfl, t8⟩
end
end Go.Proofs.YtakgpgamcmemgaaGreat.S


/-
  AX: what is left of a drawn region, step by step; an operation looks at no slot that is still to come.
-/
import Derived.Test.YtnhnhiieomhgfaaGreatDoorAxDraw
import Derived.Orders
namespace Go.AX
open Go.RowKit

section
variable {P : Program} {N : NN} {φ : Phi} {w0 w : World} {d : Draw} {i : Nat} {o : Oper} {rest : List Nat} {idx : List Nat}

/-! ## the work that is left -/

/-- A read's turn, on the evaluator's side. -/
theorem DW.read {rem : List (Nat × Oper)} (h : DW d idx) (hw : d.wait = false) (hr : d.rem = (i, o) :: rem) (b : Nat) : DW { d with rem, early := (i, o, b) :: d.early } idx := by
  refine ⟨h.stat, h.nodup, h.closed, fun p hp => h.rem p (by rw [hr]; simp [hp]), fun p hp => ?_, fun j hj => ?_, fun x => by simp only [hw] at x; cases x⟩
  · simp only [List.mem_cons] at hp
    rcases hp with rfl | hp
    · exact (h.rem (i, o) (by rw [hr]; simp)).2
    · exact h.early p hp
  · rcases h.all j hj with ⟨o', ho⟩ | ⟨o', b', ho⟩
    · rw [hr, List.mem_cons] at ho
      rcases ho with e | ho
      · cases e; exact .inr ⟨_, _, List.mem_cons_self ..⟩
      · exact .inl ⟨o', ho⟩
    · exact .inr ⟨o', b', List.mem_cons_of_mem _ ho⟩

theorem DW.tail (h : DW d (i :: rest)) : (∀ suf pre, rest = pre ++ suf → Closed d.ops suf) ∧ rest.Nodup ∧ i ∉ rest :=
  ⟨fun suf pre e => h.closed (i :: pre) suf (by rw [e]; rfl), (List.nodup_cons.1 h.nodup).2, (List.nodup_cons.1 h.nodup).1⟩

/-- The machine does what was done already. -/
theorem DW.lag (h : DW d (i :: rest)) (hw : d.wait = false) (hr : ∀ p, p ∈ d.rem → p.1 ≠ i) : DW d rest := by
  obtain ⟨h1, h2, h3⟩ := h.tail
  refine ⟨h.stat, h2, fun pre suf e => h1 suf pre e, fun p hp => ?_, h.early, fun j hj => h.all j (by simp [hj]), fun x => by rw [hw] at x; cases x⟩
  obtain ⟨a, b⟩ := h.rem p hp
  refine ⟨?_, b⟩
  simp only [List.mem_cons] at a
  exact a.resolve_left (hr p hp)

/-- Those that come behind the first writer do. -/
theorem chain_mem {pre post : List Nat} (h : DW d idx) (he : idx = pre ++ i :: post) : ∀ {l : List (Nat × Oper)} {B : List Nat}, chainB i B l = true → (∀ b, b ∈ B → b ∈ i :: post) → (∀ p, p ∈ l → p ∈ d.rem) → ∀ p, p ∈ l → p.1 ∈ post ∧ p.1 ≠ i
  | [], _, _, _, _, p, hp => by cases hp
  | (j, oj) :: l, B, hc, hB, hl, p, hp => by
    simp only [chainB] at hc
    split at hc
    · cases hc
    · rename_i hne
      have hne := Nat.ne_of_beq_eq_false hne
      split at hc
      · rename_i ha
        obtain ⟨e, e1, e2⟩ := anyB_iff ha
        have hj := (h.rem (j, oj) (hl _ (by simp))).2
        have hmem : j ∈ i :: post := h.closed pre (i :: post) he j oj hj e e1 (hB e e2)
        have hpost : j ∈ post := by
          simp only [List.mem_cons] at hmem; exact hmem.resolve_left hne
        simp only [List.mem_cons] at hp
        rcases hp with rfl | hp
        · exact ⟨hpost, hne⟩
        · refine chain_mem h he hc (fun b hb => ?_) (fun q hq => hl q (by simp [hq])) p hp
          simp only [List.mem_cons] at hb
          rcases hb with rfl | hb
          · exact hmem
          · exact hB b hb
      · cases hc

theorem dropF_sub {p : Nat × Oper × Nat} : ∀ {l : List (Nat × Oper × Nat)} {B : List Nat}, p ∈ dropF B l → p ∈ l
  | [], _, h => by simp [dropF] at h
  | (j, oj, b) :: l, B, h => by
    simp only [dropF] at h
    split at h
    · exact List.mem_cons_of_mem _ (dropF_sub h)
    · simp only [List.mem_cons] at h
      rcases h with rfl | h
      · simp
      · exact List.mem_cons_of_mem _ (dropF_sub h)

theorem dropF_mem {post : List Nat} (hcl : Closed d.ops post) : ∀ {l : List (Nat × Oper × Nat)} {B : List Nat}, (∀ e, e ∈ B → e ∉ post) → (∀ p, p ∈ l → d.ops[p.1]? = some p.2.1) → ∀ p, p ∈ l → p.1 ∈ post → p ∈ dropF B l
  | [], _, _, _, p, hp, _ => by cases hp
  | (j, oj, b) :: l, B, hB, hl, p, hp, hq => by
    simp only [dropF]
    split
    · rename_i hm
      have hj := hB j (memB_iff.1 hm)
      simp only [List.mem_cons] at hp
      rcases hp with rfl | hp
      · exact absurd hq hj
      · refine dropF_mem hcl (fun e he hx => ?_) (fun p hp => hl p (by simp [hp])) p hp hq
        rw [List.mem_append] at he
        rcases he with he | he
        · exact hj (hcl j oj (hl (j, oj, b) (by simp)) e he hx)
        · exact hB e he hx
    · simp only [List.mem_cons] at hp
      rcases hp with rfl | hp
      · simp
      · exact List.mem_cons_of_mem _ (dropF_mem hcl hB (fun p hp => hl p (by simp [hp])) p hp hq)

theorem DW.post_keep {rem : List (Nat × Oper)} {post : List Nat} (h : DW d (i :: post)) (hr : d.rem = (i, o) :: rem) :
    ∀ p, p ∈ d.early → p.1 ∈ post → p ∈ dropF (edgesOf o.after.toList) d.early := by
  obtain ⟨h1, h2, h3⟩ := h.tail
  have hcl := h1 post [] rfl
  have hi := (h.rem (i, o) (by rw [hr]; simp)).2
  exact dropF_mem hcl (fun e he hx => h3 (hcl i o hi e he hx)) h.early

/-- The writer's turn. -/
theorem DW.write {rem : List (Nat × Oper)} {post : List Nat} (h : DW d (i :: post)) (hw : d.wait = false) (hr : d.rem = (i, o) :: rem) (hne : ∀ p, p ∈ rem → p.1 ≠ i) :
    DW { d with rem, early := dropF (edgesOf o.after.toList) d.early } post := by
  obtain ⟨h1, h2, h3⟩ := h.tail
  refine ⟨h.stat, h2, fun pre suf e => h1 suf pre e, fun p hp => ?_, fun p hp => h.early p (dropF_sub hp), fun j hj => ?_, fun x => by simp only [hw] at x; cases x⟩
  · obtain ⟨a, b⟩ := h.rem p (by rw [hr]; simp [hp])
    simp only [List.mem_cons] at a
    exact ⟨a.resolve_left (hne p hp), b⟩
  · rcases h.all j (by simp [hj]) with ⟨o', ho⟩ | ⟨o', b', ho⟩
    · rw [hr, List.mem_cons] at ho
      rcases ho with e | ho
      · cases e; exact absurd hj h3
      · exact .inl ⟨o', ho⟩
    · exact .inr ⟨o', b', h.post_keep hr _ ho hj⟩

/-- The writer is a call: the region waits. -/
theorem DW.waits {rem : List (Nat × Oper)} {post : List Nat} (h : DW d (i :: post)) (hr : d.rem = (i, o) :: rem) (hne : ∀ p, p ∈ rem → p.1 ≠ i) :
    DW { d with rem := (i, o) :: rem, early := dropF (edgesOf o.after.toList) d.early, wait := true } (i :: post) := by
  refine ⟨h.stat, h.nodup, h.closed, fun p hp => h.rem p (by rw [hr]; exact hp), fun p hp => h.early p (dropF_sub hp), fun j hj => ?_, fun _ => ⟨i, o, rem, post, rfl, rfl, hne⟩⟩
  simp only [List.mem_cons] at hj
  rcases hj with rfl | hj
  · exact .inl ⟨o, by simp⟩
  · rcases h.all j (by simp [hj]) with ⟨o', ho⟩ | ⟨o', b', ho⟩
    · exact .inl ⟨o', by rw [hr] at ho; exact ho⟩
    · exact .inr ⟨o', b', h.post_keep hr _ ho hj⟩

/-- The call is back. -/
theorem DW.back {rem : List (Nat × Oper)} (h : DW d idx) (hw : d.wait = true) (hr : d.rem = (i, o) :: rem) : ∃ post, idx = i :: post ∧ d.ops[i]? = some o ∧ DW { d with rem, wait := false } post := by
  obtain ⟨i', o', rem', post, e1, e2, e3⟩ := h.wait hw
  rw [hr] at e1; cases e1; subst e2
  obtain ⟨h1, h2, h3⟩ := h.tail
  refine ⟨post, rfl, (h.rem (i, o) (by rw [hr]; simp)).2, h.stat, h2, fun pre suf e => h1 suf pre e, fun p hp => ?_, h.early, fun j hj => ?_, fun x => by cases x⟩
  · obtain ⟨a, b⟩ := h.rem p (by rw [hr]; simp [hp])
    simp only [List.mem_cons] at a
    exact ⟨a.resolve_left (e3 p hp), b⟩
  · rcases h.all j (by simp [hj]) with ⟨o', ho⟩ | ⟨o', b', ho⟩
    · rw [hr, List.mem_cons] at ho
      rcases ho with e | ho
      · cases e; exact absurd hj h3
      · exact .inl ⟨o', ho⟩
    · exact .inr ⟨o', b', ho⟩

/-! ## the slots that an operation looks at -/

theorem slotB_spec {t k : Nat} {es : List Nat} : ∀ {l : List (Nat × Oper)}, slotB t k es l = true → ∀ p, p ∈ l → p.2.dst = some t → p.1 ≠ k ∧ p.1 ∈ es
  | [], _, p, hp, _ => by cases hp
  | (j, oj) :: l, h, p, hp, ht => by
    simp only [slotB] at h
    simp only [List.mem_cons] at hp
    split at h
    · rename_i hn
      rcases hp with rfl | hp
      · simp only at ht; rw [ht] at hn; cases hn
      · exact slotB_spec h p hp ht
    · rename_i dd hd
      split at h
      · rename_i hn
        rcases hp with rfl | hp
        · simp only at ht; rw [ht] at hd; cases hd
          exact absurd rfl (Nat.ne_of_beq_eq_false hn)
        · exact slotB_spec h p hp ht
      · split at h
        · rename_i h1 h2
          rcases hp with rfl | hp
          · exact ⟨Nat.ne_of_beq_eq_false h1, memB_iff.1 h2⟩
          · exact slotB_spec h p hp ht
        · cases h

theorem slotsB_spec {k : Nat} {es : List Nat} {all : List (Nat × Oper)} : ∀ {l : List Tmp}, slotsB k es all l = true → ∀ t, t ∈ l → slotB t k es all = true
  | [], _, t, ht => by cases ht
  | u :: l, h, t, ht => by
    simp only [slotsB] at h
    split at h
    · rename_i hu
      simp only [List.mem_cons] at ht
      rcases ht with rfl | ht
      · exact hu
      · exact slotsB_spec h t ht
    · cases h

theorem statB_spec {ops : Array Oper} {all : List (Nat × Oper)} : ∀ {l : List (Nat × Oper)}, statB ops all l = true → ∀ p, p ∈ l → slotsB p.1 (edgesOf p.2.after.toList) all (slotsOf ops p.2) = true
  | [], _, p, hp => by cases hp
  | (k, ok) :: l, h, p, hp => by
    simp only [statB] at h
    split at h
    · rename_i hs
      simp only [List.mem_cons] at hp
      rcases hp with rfl | hp
      · exact hs
      · exact statB_spec h p hp
    · cases h

/-- No slot that the first operation looks at is still to be written. -/
theorem DW.free (h : DW d (i :: rest)) (hi : d.ops[i]? = some o) : ∀ t, t ∈ slotsOf d.ops o → ∀ j, j ∈ i :: rest → dstOf d.ops j ≠ some t := by
  intro t ht j hj hd
  obtain ⟨h1, h2, h3⟩ := h.tail
  have hs := slotsB_spec (statB_spec h.stat (i, o) (idxd0.2 hi)) t ht
  cases hoj : d.ops[j]? with
  | none => unfold dstOf at hd; rw [Array.getElem?_toList, hoj] at hd; cases hd
  | some oj =>
    rw [dstOf_eq hoj] at hd
    obtain ⟨a, b⟩ := slotB_spec hs (j, oj) (idxd0.2 hoj) hd
    simp only [List.mem_cons] at hj
    rcases hj with e | hj
    · exact a e
    · exact h3 (h1 rest [] rfl i o hi j b hj)

theorem mini_get {tm : T AV} {t : Nat} : ∀ {l : List Tmp}, (mini tm l).get t = if t ∈ l then tm.get t else none
  | [] => by simp [mini]
  | u :: l => by
    simp only [mini, T.get_set, mini_get (l := l), List.mem_cons]
    by_cases e : t = u
    · subst e; simp
    · simp [e]

theorem tmpsOf_mem {t : Tmp} : ∀ {l : List Operand}, .tmp t ∈ l → t ∈ tmpsOf l
  | [], h => by cases h
  | x :: l, h => by
    simp only [List.mem_cons] at h
    rcases h with rfl | h
    · simp [tmpsOf]
    · have := tmpsOf_mem h
      cases x <;> simp [tmpsOf, this]

theorem slotsOf_ops {ops : Array Oper} {t : Tmp} (h : t ∈ tmpsOf o.op.operands.toList) : t ∈ slotsOf ops o := by
  unfold slotsOf
  split
  · exact h
  · split
    · exact List.mem_cons_of_mem _ h
    · exact h

/-- The slots looked at, alone. -/
theorem mini_rel {ops : Array Oper} {idx : List Nat} {nt : Nat} {tm : T AV} {tmps : Array Value} (tx : TX φ ops idx nt tm tmps) {l : List Tmp} (hf : ∀ t, t ∈ l → ∀ j, j ∈ idx → dstOf ops j ≠ some t) :
    ∃ tmps', TR φ nt (mini tm l) tmps' ∧ ∀ t, t ∈ l → tmps'.getD t undef = tmps.getD t undef := by
  obtain ⟨h1, h2⟩ := tx
  have hg : ∀ t, (Array.ofFn (n := nt) fun i => if i.val ∈ l then tmps.getD i.val undef else undef).getD t undef = if t ∈ l then tmps.getD t undef else undef := by
    intro t
    rw [Array.getD_eq_getD_getElem?]
    by_cases ht : t < nt
    · rw [Array.getElem?_eq_getElem (by simpa using ht)]; simp
    · rw [Array.getElem?_eq_none (by simpa using ht)]
      split
      · rw [Array.getD_eq_getD_getElem?, Array.getElem?_eq_none (by omega)]
      · rfl
  refine ⟨Array.ofFn (n := nt) fun i => if i.val ∈ l then tmps.getD i.val undef else undef, ⟨by simp, fun t => ?_⟩, fun t ht => by rw [hg, if_pos ht]⟩
  rw [hg, mini_get]
  by_cases ht : t ∈ l
  · rw [if_pos ht, if_pos ht]; exact h2 t (hf t ht)
  · rw [if_neg ht, if_neg ht]; exact VR_und

theorem wantedD_rel {ops : Array Oper} {nt : Nat} {tm : T AV} {tmps tmps' : Array Value} (tr : TR φ nt (mini tm (slotsOf ops o)) tmps') (hs : ∀ t, t ∈ slotsOf ops o → tmps'.getD t undef = tmps.getD t undef) :
    wantedD (mini tm (slotsOf ops o)) ops o = Region.wanted o (yielded ops tmps) := by
  unfold wantedD Region.wanted
  cases hg : o.guard with
  | none => rfl
  | some x =>
    obtain ⟨j, want⟩ := x
    simp only [yielded]
    cases hj : ops[j]? with
    | none => unfold dstOf; rw [Array.getElem?_toList, hj]; simp
    | some oj =>
      rw [dstOf_eq hj]
      simp only [Option.bind_some]
      cases hd : oj.dst with
      | none => simp
      | some dd =>
        simp only [Option.bind_some]
        have hr := tr.2 dd
        have hin : dd ∈ slotsOf ops o := by unfold slotsOf; rw [hg]; simp only [dstOf_eq hj, hd]; simp
        rw [hs dd hin] at hr
        cases ht : (mini tm (slotsOf ops o)).get dd with
        | none =>
          rw [ht] at hr
          simp only
          cases hc : tmps[dd]? with
          | none => simp
          | some c =>
            have e : tmps.getD dd undef = c := by rw [Array.getD_eq_getD_getElem?, hc]; rfl
            rw [e] at hr
            cases c with
            | bool b =>
              simp only [Option.getD_none, und, VR_tuple] at hr
              obtain ⟨a, ha, _⟩ := hr; cases ha
            | _ => simp
        | some v =>
          rw [ht, Option.getD_some] at hr
          cases hc : tmps[dd]? with
          | none =>
            have e : tmps.getD dd undef = undef := by rw [Array.getD_eq_getD_getElem?, hc]; rfl
            rw [e] at hr
            cases v with
            | bool b => simp [undef] at hr
            | _ => simp
          | some c =>
            have e : tmps.getD dd undef = c := by rw [Array.getD_eq_getD_getElem?, hc]; rfl
            rw [e] at hr
            cases v with
            | bool b => simp only [VR_bool] at hr; subst hr; simp
            | slice b o len cp => obtain ⟨a, c', e'⟩ := VR_slice_some hr; subst e'; simp
            | _ =>
              cases c with
              | bool b => simp at hr
              | _ => simp

theorem execA_select {tm : T AV} {h : H} {cs : Array SelectCase} {b : Bool} : execA P tm h (.select cs b) = .fail := rfl

/-- What an operation of a drawn region comes to, on both sides. -/
theorem execD_rel {h : H} (hr : HR N φ h w) (hN : N ≤ w.heap.size) {ops : Array Oper} {idx : List Nat} {nt : Nat} {tm : T AV} {tmps : Array Value} (tx : TX φ ops idx nt tm tmps)
    (hf : ∀ t, t ∈ slotsOf ops o → ∀ j, j ∈ idx → dstOf ops j ≠ some t) :
    wantedD (mini tm (slotsOf ops o)) ops o = Region.wanted o (yielded ops tmps) ∧ RR P N φ w ((execOp (ev tmps) o).run P w) (execA P (mini tm (slotsOf ops o)) h o.op) := by
  obtain ⟨tmps', tr, hs⟩ := mini_rel tx hf
  refine ⟨wantedD_rel tr hs, ?_⟩
  have := execA_rel (P := P) hr hN tr o
  by_cases hsel : ∃ cs b, o.op = .select cs b
  · obtain ⟨cs, b, e⟩ := hsel
    rw [e, execA_select]; trivial
  · rw [execOp_congr (ρ := ev tmps) (ρ' := ev tmps') o (fun cs b e => hsel ⟨cs, b, e⟩) (fun x hx => ?_)]
    · exact this
    · cases x with
      | tmp t => exact (hs t (slotsOf_ops (tmpsOf_mem (by simpa using hx)))).symm
      | _ => rfl

end
end Go.AX

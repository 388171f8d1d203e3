/-
  auto: ticks, told in plain words.
-/
import Derived.Test.YtiegeehjbmogpaaAutoD
set_option linter.unusedSimpArgs false
set_option linter.unusedVariables false
namespace Go.Proofs.Ytiegeehjbmogpaa.W
open Go Go.AX
noncomputable section


def tickV (m told : Nat) : AV := if m ≤ 1 ∨ m ≤ told then .tuple [.int .u64 (.ofNat 0), .bool false] else .tuple [.int .u64 (.ofNat m), .bool true]
def newTold (m told : Nat) : Nat := if m ≤ 1 ∨ m ≤ told then told else m

def tickN (m told : Nat) : Nat := if m ≤ 1 ∨ m ≤ told then 0 else m
def tickB (m told : Nat) : Bool := if m ≤ 1 ∨ m ≤ told then false else true
theorem tickV_eq (m told : Nat) : tickV m told = .tuple [.int .u64 (.ofNat (tickN m told)), .bool (tickB m told)] := by
  unfold tickV tickN tickB; split <;> rfl
theorem tickV_old {m told : Nat} (h : m ≤ 1 ∨ m ≤ told) : .tuple [.int .u64 (.ofNat 0), .bool false] = tickV m told := by unfold tickV; rw [if_pos h]
theorem tickV_new {m told : Nat} (h : ¬ (m ≤ 1 ∨ m ≤ told)) : .tuple [.int .u64 (.ofNat m), .bool true] = tickV m told := by unfold tickV; rw [if_neg h]
theorem newTold_old {m told : Nat} (h : m ≤ 1 ∨ m ≤ told) : newTold m told = told := if_pos h
theorem newTold_new {m told : Nat} (h : ¬ (m ≤ 1 ∨ m ≤ told)) : newTold m told = m := if_neg h

inductive AS where
  | ret (keep told : Nat)
  | per (e n seen told : Nat)
def AS.told : AS → Nat
  | .ret _ t => t
  | .per _ _ _ t => t
def AS.m (rev : Nat) : AS → Nat
  | .ret keep _ => if rev ≤ keep then 0 else rev - keep
  | .per e n seen _ => perM n e seen
def AS.next (rev : Nat) : AS → AS
  | .ret keep told => .ret keep (newTold (if rev ≤ keep then 0 else rev - keep) told)
  | .per e n seen told => .per e ((n + 1) % e) (if (n + 1) % e = 0 then rev else seen) (newTold (perM n e seen) told)

def ProgAt (h : H) (lo hi a : Nat) : AS → Prop
  | .ret keep told => RetR h a keep told ∧ lo ≤ a ∧ a < hi
  | .per e n seen told => ∃ nb eb, PerR h a nb eb e n seen told ∧ (lo ≤ a ∧ a < hi ∧ lo ≤ nb ∧ nb < hi ∧ lo ≤ eb ∧ eb < hi) ∧ 0 < e ∧ n < e ∧ e ≤ 1000000

/-- Only blocks between are changed. -/
def Mid (h h' : H) (lo hi : Nat) : Prop := h'.nx = h.nx ∧ ∀ c, c < lo ∨ hi ≤ c → h'.t.get c = h.t.get c
/-- .. from a number on. -/
def From (h h' : H) (lo : Nat) : Prop := h.nx ≤ h'.nx ∧ ∀ c, c < lo → h'.t.get c = h.t.get c

theorem RetR.told {h : H} {a keep told m : Nat} (hr : RetR h a keep told) : RetR (h.sts a 4 [.int .u64 (.ofNat m)]) a keep m := by
  obtain ⟨lt, wr, c0, c2, c4⟩ := hr
  refine ⟨by rw [nx_sts]; exact lt, by rw [wrAt_sts]; exact wr, ?_, ?_, ?_⟩
  all_goals simp only [B, F, Nat.reduceLT, Nat.reduceLeDiff, Nat.reduceEqDiff, Nat.reduceAdd, Nat.reduceMul, Nat.reduceSub, ↓reduceIte, eq_self, cellAt_sts wr, c0, c2]

theorem PerR.told' {h : H} {a nb eb e n seen told m : Nat} (hr : PerR h a nb eb e n seen told) : PerR (h.sts a 4 [.int .u64 (.ofNat m)]) a nb eb e n seen m := by
  obtain ⟨lt, ne, wr, c0, c1, c3, c4, cn, ce⟩ := hr
  refine ⟨by simp only [nx_sts]; exact lt, ne, by simp only [wrAt_sts]; exact wr, ?_, ?_, ?_, ?_, ?_, ?_⟩
  all_goals simp only [B, F, Nat.reduceLT, Nat.reduceLeDiff, Nat.reduceEqDiff, Nat.reduceAdd, Nat.reduceMul, Nat.reduceSub, ↓reduceIte, eq_self, cellAt_sts wr.1, c0, c1, c3, cn, ce, ne.1, ne.2.1]

def PostProg (h : H) (lo hi a rev : Nat) (s : AS) (v : AV) (h' : H) : Prop := v = tickV (s.m rev) s.told ∧ ProgAt h' lo hi a (s.next rev) ∧ Mid h h' lo hi

theorem progTick (h : H) (lo hi a rev : Nat) (s : AS) (hp : ProgAt h lo hi a s) (hr : rev < 18446744073709551616) : PushC P (.enter 9 [.ptr a 0, .int .u64 (.ofNat rev)] h) (PostProg h lo hi a rev s) := by
  cases s with
  | ret keep told =>
    obtain ⟨hret, hlo, hhi⟩ := hp
    refine (tickRet h a keep told rev hret hr).mono P ?_
    rintro v h' (⟨hm, rfl, rfl⟩ | ⟨hm, rfl, rfl⟩)
    · exact ⟨tickV_old hm, ⟨by rw [newTold_old hm]; exact hret, hlo, hhi⟩, rfl, fun _ _ => rfl⟩
    · exact ⟨tickV_new hm, ⟨by rw [newTold_new hm]; exact hret.told, hlo, hhi⟩, nx_sts _ _ _ _, fun c hc => get_sts _ _ _ _ (by omega)⟩
  | per e n seen told =>
    obtain ⟨nb, eb, hper, hb, h0, h1, h2⟩ := hp
    have hrel := (perH_rel (rev := rev) hper).1
    have hmid : Mid h (perH h a nb n e rev) lo hi := by
      unfold perH
      split
      · exact ⟨by simp only [nx_sts], fun c hc => by rw [get_sts _ _ _ _ (by omega), get_sts _ _ _ _ (by omega)]⟩
      · exact ⟨by simp only [nx_sts], fun c hc => by rw [get_sts _ _ _ _ (by omega)]⟩
    refine (tickPer h a nb eb e n seen told rev hper h0 h1 h2).mono P ?_
    have hmod := Nat.mod_lt (n + 1) h0
    rintro v h' (⟨hm, rfl, rfl⟩ | ⟨hm, rfl, rfl⟩)
    · exact ⟨tickV_old hm, ⟨nb, eb, by rw [newTold_old hm]; exact hrel, hb, h0, hmod, h2⟩, hmid⟩
    · exact ⟨tickV_new hm, ⟨nb, eb, by rw [newTold_new hm]; exact hrel.told', hb, h0, hmod, h2⟩,
        by rw [nx_sts]; exact hmid.1, fun c hc => by rw [get_sts _ _ _ _ (by omega)]; exact hmid.2 c hc⟩

theorem RefR.told' {h : H} {base b e keep told m : Nat} {seen : List Nat} (hr : RefR h base b e keep seen told) : RefR (h.sts b 3 [.int .u64 (.ofNat m)]) base b e keep seen m := by
  obtain ⟨lt, wr, c0, c1, ⟨v, c2, hg, hv⟩, c3⟩ := hr
  refine ⟨by rw [nx_sts]; exact lt, by rw [wrAt_sts]; exact wr, ?_, ?_, ⟨v, ?_, hg.of_get (by rw [nx_sts]; exact Nat.le_refl _) (fun c hc => get_sts _ _ _ _ (fun q => hv (q ▸ hc))), hv⟩, ?_⟩
  all_goals simp only [B, F, Nat.reduceLT, Nat.reduceLeDiff, Nat.reduceEqDiff, Nat.reduceAdd, Nat.reduceMul, Nat.reduceSub, ↓reduceIte, eq_self, cellAt_sts wr, c0, c1, c2]

theorem RefR.mid {h h' : H} {base b e keep told : Nat} {seen : List Nat} (hr : RefR h base b e keep seen told) {lo : Nat} (hm : Mid h h' lo base) : RefR h' base b e keep seen told := by
  obtain ⟨lt, wr, c0, c1, ⟨v, c2, hg, hv⟩, c3⟩ := hr
  have eb := hm.2 b (.inr lt.1)
  have ec := cellAt_of_get eb
  refine ⟨⟨lt.1, by rw [hm.1]; exact lt.2⟩, by rw [wrAt_of_get eb]; exact wr, by rw [ec]; exact c0, by rw [ec]; exact c1, ⟨v, by rw [ec]; exact c2, hg.of_get (by rw [hm.1]; exact Nat.le_refl _) (fun c hc => hm.2 c (.inr (hg.base hc).1)), hv⟩, by rw [ec]; exact c3⟩

theorem ProgAt.from {h h' : H} {lo hi a : Nat} {s : AS} (hp : ProgAt h lo hi a s) (hf : From h h' hi) : ProgAt h' lo hi a s := by
  cases s with
  | ret keep told =>
    obtain ⟨⟨lt, wr, c0, c2, c4⟩, hlo, hhi⟩ := hp
    have ea := hf.2 a hhi
    have ec := cellAt_of_get ea
    exact ⟨⟨Nat.lt_of_lt_of_le lt hf.1, by rw [wrAt_of_get ea]; exact wr, by rw [ec]; exact c0, by rw [ec]; exact c2, by rw [ec]; exact c4⟩, hlo, hhi⟩
  | per e n seen told =>
    obtain ⟨nb, eb, ⟨lt, ne, wr, c0, c1, c3, c4, cn, ce⟩, hb, h0⟩ := hp
    have ea := hf.2 a hb.2.1
    have en := hf.2 nb (by omega)
    have ee := hf.2 eb (by omega)
    have ec := cellAt_of_get ea
    exact ⟨nb, eb, ⟨⟨Nat.lt_of_lt_of_le lt.1 hf.1, Nat.lt_of_lt_of_le lt.2.1 hf.1, Nat.lt_of_lt_of_le lt.2.2 hf.1⟩, ne, ⟨by rw [wrAt_of_get ea]; exact wr.1, by rw [wrAt_of_get en]; exact wr.2⟩, by rw [ec]; exact c0, by rw [ec]; exact c1, by rw [ec]; exact c3,
      by rw [ec]; exact c4, by rw [cellAt_of_get en]; exact cn, by rw [cellAt_of_get ee]; exact ce⟩, hb, h0⟩

def PostRefP (h : H) (base b e keep : Nat) (seen : List Nat) (told rev : Nat) (v : AV) (h' : H) : Prop :=
  v = tickV (refM e keep seen rev) told ∧ RefR h' base b e keep (seen ++ [rev]) (newTold (refM e keep seen rev) told) ∧ From h h' base

theorem refTick (h : H) (base b e keep told rev : Nat) (seen : List Nat) (hr : RefR h base b e keep seen told) (h0 : (0 < e ∧ keep = 0) ∨ (e = 0 ∧ 0 < keep)) (h1 : e ≤ 1000000) (h2 : rev < 18446744073709551616) (hl : seen.length < 100) :
    PushC P (.enter 10 [.ptr b 0, .int .u64 (.ofNat rev)] h) (PostRefP h base b e keep seen told rev) := by
  have hgo : PushC P (.enter 10 [.ptr b 0, .int .u64 (.ofNat rev)] h) (PostRefT h base b e keep seen told rev) := by
    rcases h0 with ⟨a, rfl⟩ | ⟨rfl, a⟩
    · exact refTickE h base b e told rev seen hr a h1 hl
    · exact refTickK h base b keep told rev seen hr a h2 hl
  refine hgo.mono P ?_
  rintro v h' ⟨h1, (⟨hm, rfl, rfl⟩ | ⟨hm, rfl, rfl⟩), hr1, hx, hf⟩
  · exact ⟨tickV_old hm, by rw [newTold_old hm]; exact hr1, hx, hf⟩
  · exact ⟨tickV_new hm, by rw [newTold_new hm]; exact hr1.told', by rw [nx_sts]; exact hx, fun c hc => by rw [get_sts _ _ _ _ (by have := hr1.lt.1; omega)]; exact hf c hc⟩

/-! ## new ones -/

def newAS (e k : Nat) : AS := if 0 < e then .per e 0 0 0 else .ret k 0
def PostNew (h : H) (e k : Nat) (v : AV) (h' : H) : Prop := ∃ a, v = .tuple [.ptr a 0, .int .i64 (.ofNat 0)] ∧ ProgAt h' h.nx h'.nx a (newAS e k) ∧ From h h' h.nx

theorem progNew (h : H) (e k : Nat) (h0 : (0 < e ∧ k = 0) ∨ (e = 0 ∧ 0 < k)) (h1 : e ≤ 1000000) (h2 : k ≤ 1099511627776) : PushC P (.enter 6 [.int .i64 (.ofNat e), .int .u64 (.ofNat k)] h) (PostNew h e k) := by
  rcases h0 with ⟨a, rfl⟩ | ⟨rfl, a⟩
  · refine (newPer h e a h1).mono P ?_
    rintro v h' ⟨a1, nb, eb, rfl, q1, q2, q3, hp, ho⟩
    refine ⟨a1, rfl, ?_, ho.1, fun c hc => ho.2 c hc (by simp)⟩
    unfold newAS; rw [if_pos a]
    exact ⟨nb, eb, hp, ⟨q1, hp.lt.1, q2, hp.lt.2.1, q3, hp.lt.2.2⟩, a, a, h1⟩
  · refine (newRet h k a h2).mono P ?_
    rintro v h' ⟨a1, rfl, q1, q2, hp, ho⟩
    exact ⟨a1, rfl, ⟨hp, q1, q2⟩, ho.1, fun c hc => ho.2 c hc (by simp)⟩

/-! ## they say the same -/

/-- What the program's one has seen, by what the document's one has. -/
def Sim (e k : Nat) (seen : List Nat) : AS → Nat → Prop
  | .ret keep told, t => e = 0 ∧ keep = k ∧ told = t
  | .per e' n s told, t => 0 < e ∧ e' = e ∧ told = t ∧ n = seen.length % e ∧ s = if e ≤ seen.length then (seen[seen.length / e * e - 1]?).getD 0 else 0

theorem Sim.told {e k t : Nat} {seen : List Nat} {s : AS} (hs : Sim e k seen s t) : s.told = t := by
  cases s with
  | ret keep told => exact hs.2.2
  | per => exact hs.2.2.1

theorem sim_new (e k : Nat) (h0 : (0 < e ∧ k = 0) ∨ (e = 0 ∧ 0 < k)) : Sim e k [] (newAS e k) 0 := by
  rcases h0 with ⟨a, rfl⟩ | ⟨rfl, a⟩
  · unfold newAS; rw [if_pos a]
    refine ⟨a, rfl, rfl, by simp, ?_⟩
    rw [if_neg (by simp; omega)]
  · exact ⟨rfl, rfl, rfl⟩

theorem sim_m {e k t rev : Nat} {seen : List Nat} {s : AS} (hs : Sim e k seen s t) : s.m rev = refM e k seen rev := by
  cases s with
  | ret keep told =>
    obtain ⟨rfl, rfl, rfl⟩ := hs
    show (if rev ≤ keep then 0 else rev - keep) = (if 0 < 0 then _ else if keep < rev then rev - keep else 0)
    rw [if_neg (Nat.lt_irrefl 0)]
    split <;> split <;> omega
  | per e' n s told =>
    obtain ⟨h0, rfl, rfl, rfl, rfl⟩ := hs
    simp only [AS.m, perM, refM]
    rw [if_pos h0, Nat.mod_add_mod]
    by_cases q : (seen.length + 1) % e' = 0
    · rw [if_pos q]
      have hd : seen.length / e' * e' = seen.length + 1 - e' := by
        obtain ⟨c, hc⟩ := Nat.dvd_of_mod_eq_zero q
        have hc1 : 1 ≤ c := by
          rcases c with _ | c
          · simp at hc
          · omega
        obtain ⟨d, rfl⟩ : ∃ d, c = d + 1 := ⟨c - 1, by omega⟩
        have e1 : seen.length = e' * d + (e' - 1) := by rw [Nat.mul_add] at hc; omega
        have : seen.length / e' = d := by
          rw [e1, Nat.mul_add_div h0, Nat.div_eq_of_lt (by omega)]; rfl
        rw [this, Nat.mul_comm]; omega
      by_cases q2 : e' ≤ seen.length
      · rw [if_pos q2, if_pos ⟨q, by omega⟩, hd, List.getElem?_append_left (by omega), show seen.length + 1 - 1 - e' = seen.length + 1 - e' - 1 by omega]
      · rw [if_neg q2, if_neg (by omega)]
    · rw [if_neg q, if_neg (fun x => q x.1)]

theorem sim_next {e k t rev : Nat} {seen : List Nat} {s : AS} (hs : Sim e k seen s t) : Sim e k (seen ++ [rev]) (s.next rev) (newTold (refM e k seen rev) t) := by
  have hm := sim_m (rev := rev) hs
  cases s with
  | ret keep told =>
    obtain ⟨rfl, rfl, rfl⟩ := hs
    exact ⟨rfl, rfl, by rw [← hm]; rfl⟩
  | per e' n s told =>
    obtain ⟨h0, rfl, rfl, rfl, rfl⟩ := hs
    refine ⟨h0, rfl, by rw [← hm]; rfl, by rw [Nat.mod_add_mod, List.length_append]; rfl, ?_⟩
    rw [Nat.mod_add_mod, List.length_append, List.length_singleton]
    by_cases q : (seen.length + 1) % e' = 0
    · rw [if_pos q]
      have hle : e' ≤ seen.length + 1 := Nat.le_of_dvd (by omega) (Nat.dvd_of_mod_eq_zero q)
      rw [if_pos hle, Nat.div_mul_cancel (Nat.dvd_of_mod_eq_zero q)]
      simp
    · rw [if_neg q]
      have hd : (seen.length + 1) / e' = seen.length / e' := by
        have h3 := Nat.div_add_mod (seen.length + 1) e'
        have h4 := Nat.div_add_mod seen.length e'
        have h5 := Nat.mod_lt (seen.length + 1) h0
        have h6 := Nat.mod_lt seen.length h0
        apply Nat.div_eq_of_lt_le
        · rw [Nat.mul_comm]; omega
        · rw [Nat.add_mul, Nat.one_mul, Nat.mul_comm]
          rcases Nat.lt_or_ge (seen.length % e' + 1) e' with q3 | q3
          · omega
          · exfalso
            apply q
            have : seen.length + 1 = e' * (seen.length / e' + 1) := by rw [Nat.mul_add]; omega
            rw [this]; exact Nat.mul_mod_right _ _
      by_cases q2 : e' ≤ seen.length
      · have h7 : 1 ≤ seen.length / e' := (Nat.one_le_div_iff h0).2 q2
        have h8 : seen.length / e' * e' ≤ seen.length := Nat.div_mul_le_self _ _
        have h9 : 1 ≤ seen.length / e' * e' := Nat.mul_pos h7 h0
        rw [if_pos q2, if_pos (by omega), hd, List.getElem?_append_left (by omega)]
      · rw [if_neg q2, if_neg]
        intro h; apply q
        have : seen.length + 1 = e' := by omega
        rw [this]; exact Nat.mod_self _
end
end Go.Proofs.Ytiegeehjbmogpaa.W


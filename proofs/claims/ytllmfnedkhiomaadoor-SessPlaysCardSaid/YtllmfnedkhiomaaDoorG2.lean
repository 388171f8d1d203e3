/-
  'SessPlays' returns true, in every world where the package-level variables start as the program's text lays them; the argument reads as it did.
-/
import Derived.Test.YtllmfnedkhiomaaDoorAxI
import Derived.Test.YtllmfnedkhiomaaDoorG1
import Derived.Test.YtllmfnedkhiomaaDoorRows
import Derived.Test.YtllmfnedkhiomaaDoorTie
import Derived.Test.YtllmfnedkhiomaaDoorCards
import Derived.ProofKit
import Derived.OpenShut
import Derived.LaidLaws
import Derived.LaidHandle
import Derived.Lay
import Derived.MakeChecks
import Derived.SevenTiedAt
import Derived.Lib.LaidU8
import Derived.Test.YtllmfnedkhiomaaDoorG0
set_option linter.unusedSimpArgs false
set_option linter.unusedVariables false
set_option linter.unusedSectionVars false
open Nat (reduceLT reduceLeDiff reduceEqDiff reduceAdd reduceMul reduceSub)
namespace Go.Proofs.YtllmfnedkhiomaaDoor.S
open Go Go.AX
noncomputable section
theorem getB_none {c : Nat} : ∀ {L : List Rw}, getB c L = none ↔ c ∉ L.map (·.1)
 | [] => by simp [getB]
 | p :: L => by
  have ih := getB_none (c := c) (L := L)
  unfold getB at ih ⊢
  rw [List.find?_cons, List.map_cons, List.mem_cons, not_or]
  by_cases q : c = p.1
  ·simp [q]
  ·simp only [q, decide_false]; rw [ih]; simp
theorem getB_some {c : Nat} {y : Lst} : ∀ {L : List Rw}, (L.map (·.1)).Nodup → (getB c L = some y ↔ (c, y) ∈ L)
 | [], _ => by simp [getB]
 | p :: L, nd => by
  rw [List.map_cons, List.nodup_cons] at nd
  have ih := getB_some (c := c) (y := y) nd.2
  unfold getB at ih ⊢
  rw [List.find?_cons, List.mem_cons]
  by_cases q : c = p.1
  ·simp only [q, decide_true]
   constructor
   ·intro h; cases h; exact .inl rfl
   ·rintro (h | h)
    ·rw [← h]; rfl
    ·exact absurd (List.mem_map_of_mem (f := (·.1)) h) nd.1
  ·simp only [q, decide_false]
   rw [ih]
   constructor
   ·exact .inr
   ·rintro (h | h)
    ·exact absurd (by rw [← h]) q
    ·exact h
theorem nd_of {l : List Rw} (h : (l.map (·.1)).Nodup) : l.Nodup := by
 rw [List.Nodup, List.pairwise_map] at h
 exact h.imp fun h e => h (by rw [e])
structure Rel (Bk L : List Rw) (i : Nat) : Prop where
 pm : Bk.Perm L
 so : (L.map (·.1)).Pairwise (· < ·)
 ok : ∀ y, y ∈ L → y.1 < 281474976710656 ∧ y.2.1 ≤ i ∧ y.2.2.length ≤ 4000
 len : L.length ≤ 64
theorem Rel.nd {Bk L : List Rw} {i : Nat} (r : Rel Bk L i) : (L.map (·.1)).Nodup := r.so.imp fun h => Nat.ne_of_lt h
theorem Rel.ndB {Bk L : List Rw} {i : Nat} (r : Rel Bk L i) : (Bk.map (·.1)).Nodup := (r.pm.map (·.1)).nodup_iff.2 r.nd
theorem Rel.get {Bk L : List Rw} {i : Nat} (r : Rel Bk L i) (c : Nat) : getB c Bk = getB c L := by
 cases h : getB c L with
 | none =>
  rw [getB_none] at h ⊢
  exact fun q => h ((r.pm.map (·.1)).mem_iff.1 q)
 | some y => rw [getB_some r.nd] at h; rw [getB_some r.ndB]; exact r.pm.mem_iff.2 h
theorem Rel.seen {Bk L : List Rw} {i : Nat} (r : Rel Bk L i) (c n : Nat) : seenE Bk c n = seenE L c n := by
 unfold seenE
 rw [r.get c, r.pm.length_eq]
theorem Rel.mono {Bk L : List Rw} {i j : Nat} (r : Rel Bk L i) (h : i ≤ j) : Rel Bk L j := ⟨r.pm, r.so, fun y hy => by have := r.ok y hy; exact ⟨this.1, by omega, this.2.2⟩, r.len⟩
theorem rel_nil : Rel [] [] 0 := ⟨List.Perm.refl _, List.Pairwise.nil, fun y hy => (by cases hy), Nat.zero_le _⟩
theorem mem_putB {c : Nat} {y : Lst} {z : Rw} : ∀ {L : List Rw}, (L.map (·.1)).Nodup → (z ∈ putB c y L ↔ z = (c, y) ∨ z.1 ≠ c ∧ z ∈ L)
 | [], _ => by simp [putB]
 | (a, x) :: L, nd => by
  rw [List.map_cons, List.nodup_cons] at nd
  have ih := mem_putB (c := c) (y := y) (z := z) nd.2
  unfold putB
  by_cases q : c = a
  ·subst q
   rw [if_pos rfl, List.mem_cons, List.mem_cons]
   constructor
   ·rintro (h | h)
    ·exact .inl h
    ·exact .inr ⟨fun e => nd.1 (by rw [← e]; exact List.mem_map_of_mem (f := (·.1)) h), .inr h⟩
   ·rintro (h | ⟨h1, h | h⟩)
    ·exact .inl h
    ·exact absurd (by rw [h]) h1
    ·exact .inr h
  ·rw [if_neg q, List.mem_cons, List.mem_cons, ih]
   constructor
   ·rintro (h | h | ⟨h1, h2⟩)
    ·exact .inr ⟨by rw [h]; exact fun e => q e.symm, .inl h⟩
    ·exact .inl h
    ·exact .inr ⟨h1, .inr h2⟩
   ·rintro (h | ⟨h1, h | h⟩)
    ·exact .inr (.inl h)
    ·exact .inl h
    ·exact .inr (.inr ⟨h1, h⟩)
theorem putB_keys (c : Nat) (y : Lst) : ∀ L : List Rw, (putB c y L).map (·.1) = if c ∈ L.map (·.1) then L.map (·.1) else L.map (·.1) ++ [c]
 | [] => rfl
 | (a, x) :: L => by
  have ih := putB_keys c y L
  unfold putB
  by_cases q : c = a
  ·subst q
   rw [if_pos rfl]; simp
  ·rw [if_neg q, List.map_cons, ih, List.map_cons]
   by_cases r : c ∈ L.map (·.1)
   ·rw [if_pos r, if_pos (List.mem_cons.2 (.inr r))]
   ·rw [if_neg r, if_neg (fun h => (List.mem_cons.1 h).elim q r)]; rfl
theorem rows_split (c : Nat) (y : Lst) {L : List Rw} (so : (L.map (·.1)).Pairwise (· < ·)) : ∃ A B, rowsN c y L = A ++ (c, y) :: B ∧ (∀ a, a ∈ A → a.1 < c) ∧ (∀ b, b ∈ B → c < b.1) ∧ (∀ z, z ∈ A ∨ z ∈ B ↔ z.1 ≠ c ∧ z ∈ L) ∧ ((A ++ (c, y) :: B).length = if (getB c L).isSome then L.length else L.length + 1) ∧
  (A.map (·.1)).Pairwise (· < ·) ∧ (B.map (·.1)).Pairwise (· < ·) := by
 unfold rowsN
 by_cases hf : fIx c L < L.length
 ·obtain ⟨y0, hx, hg⟩ := fIx_at hf
  rw [if_pos hf]
  have hL : L = L.take (fIx c L) ++ (c, y0) :: L.drop (fIx c L + 1) := by
   have h1 := (List.getElem?_eq_some_iff.1 hx)
   obtain ⟨h2, h3⟩ := h1
   conv => lhs; rw [← List.take_append_drop (fIx c L) L]
   rw [List.drop_eq_getElem_cons h2, h3]
  obtain ⟨A, hA⟩ : ∃ A, A = L.take (fIx c L) := ⟨_, rfl⟩
  obtain ⟨B, hB⟩ : ∃ B, B = L.drop (fIx c L + 1) := ⟨_, rfl⟩
  have hAl : A.length = fIx c L:= by rw [hA, List.length_take]; omega
  have hset : L.set (fIx c L) (c, y) = A ++ (c, y) :: B := by
   conv => lhs; arg 1; rw [hL]
   rw [← hA, ← hB, List.set_append, if_neg (by omega), hAl, Nat.sub_self]; rfl
  have hL' : L = A ++ (c, y0) :: B:= by rw [hA, hB]; exact hL
  have so' := so
  rw [hL', List.map_append, List.map_cons, List.pairwise_append, List.pairwise_cons] at so'
  obtain ⟨s1, ⟨s2, s3⟩, s4⟩ := so'
  have hAc : ∀ a, a ∈ A → a.1 < c := fun a ha => s4 a.1 (List.mem_map_of_mem (f := (·.1)) ha) c (by simp)
  have hBc : ∀ b, b ∈ B → c < b.1 := fun b hb => s2 b.1 (List.mem_map_of_mem (f := (·.1)) hb)
  refine ⟨A, B, hset, hAc, hBc, fun z => ?_, ?_, s1, s3⟩
  ·rw [hL', List.mem_append, List.mem_cons]
   constructor
   ·rintro (h | h)
    ·exact ⟨Nat.ne_of_lt (hAc z h), .inl h⟩
    ·exact ⟨Nat.ne_of_gt (hBc z h), .inr (.inr h)⟩
   ·rintro ⟨h1, h | h | h⟩
    ·exact .inl h
    ·exact absurd (by rw [h]) h1
    ·exact .inr h
  ·rw [hg]
   have := congrArg List.length hL'
   simp at this ⊢
   omega
 ·rw [if_neg hf]
  have hg := fIx_no hf
  have hnc := getB_none.1 hg
  have hA : L.take (insP c L) = L.takeWhile fun x => decide (x.1 < c) := by
   unfold insP
   conv => lhs; arg 2; rw [← List.takeWhile_append_dropWhile (p := fun x : Rw => decide (x.1 < c)) (l := L)]
   rw [List.take_left']
   rfl
  have hB : L.drop (insP c L) = L.dropWhile fun x => decide (x.1 < c) := by
   unfold insP
   conv => lhs; arg 2; rw [← List.takeWhile_append_dropWhile (p := fun x : Rw => decide (x.1 < c)) (l := L)]
   rw [List.drop_left']
   rfl
  obtain ⟨A, hAe⟩ : ∃ A, A = L.take (insP c L) := ⟨_, rfl⟩
  obtain ⟨B, hBe⟩ : ∃ B, B = L.drop (insP c L) := ⟨_, rfl⟩
  have hL' : L = A ++ B:= by rw [hAe, hBe]; exact (List.take_append_drop _ _).symm
  rw [← hAe, ← hBe]
  have so' := so
  rw [hL', List.map_append, List.pairwise_append] at so'
  obtain ⟨s1, s2, s3⟩ := so'
  have hAc : ∀ a, a ∈ A → a.1 < c := fun a ha => by
   rw [hAe, hA] at ha
   have := List.all_takeWhile (l := L) (p := fun x : Rw => decide (x.1 < c))
   exact of_decide_eq_true (List.all_eq_true.1 this a ha)
  have hBc : ∀ b, b ∈ B → c < b.1 := by
   cases hb : B with
   | nil => intro b h; cases h
   | cons z B' =>
    have hz : ¬ z.1 < c := by
     have : L[insP c L]? = some z := by
      have e : (L.drop (insP c L))[0]? = some z:= by rw [← hBe, hb]; rfl
      rw [List.getElem?_drop] at e
      simpa using e
     exact insP_end this
    have hzL : z ∈ L:= by rw [hL', hb]; simp
    have hzc : z.1 ≠ c := fun e => hnc (by rw [← e]; exact List.mem_map_of_mem (f := fun x : Rw => x.1) hzL)
    rw [hb, List.map_cons, List.pairwise_cons] at s2
    intro b h
    rcases List.mem_cons.1 h with rfl | h
    ·omega
    ·have := s2.1 b.1 (List.mem_map_of_mem (f := (·.1)) h); omega
  refine ⟨A, B, rfl, hAc, hBc, fun z => ?_, ?_, s1, s2⟩
  ·conv => rhs; rw [hL', List.mem_append]
   constructor
   ·rintro (h | h)
    ·exact ⟨Nat.ne_of_lt (hAc z h), .inl h⟩
    ·exact ⟨Nat.ne_of_gt (hBc z h), .inr h⟩
   ·rintro ⟨-, h⟩; exact h
  ·rw [hg]
   conv => rhs; rw [hL']
   simp; omega
theorem Rel.put {Bk L : List Rw} {i : Nat} (r : Rel Bk L i) (c n : Nat) (s : List Nat) (hc : c < 281474976710656) (hn : n ≤ i + 1) (hs : s.length ≤ 4000) (hl : getB c L = none → L.length < 64) : Rel (putB c (n, s) Bk) (rowsN c (n, s) L) (i + 1) := by
 obtain ⟨A, B, e, hA, hB, hm, hlen, sA, sB⟩ := rows_split c (n, s) r.so
 have so2 : ((A ++ (c, n, s) :: B).map (·.1)).Pairwise (· < ·) := by
  rw [List.map_append, List.map_cons, List.pairwise_append, List.pairwise_cons]
  refine ⟨sA, ⟨fun b hb => ?_, sB⟩, fun a ha b hb => ?_⟩
  ·obtain ⟨z, hz, rfl⟩ := List.mem_map.1 hb; exact hB z hz
  ·obtain ⟨x, hx, rfl⟩ := List.mem_map.1 ha
   rcases List.mem_cons.1 hb with rfl | hb
   ·exact hA x hx
   ·obtain ⟨z, hz, rfl⟩ := List.mem_map.1 hb
    exact Nat.lt_trans (hA x hx) (hB z hz)
 have nd2 : ((A ++ (c, n, s) :: B).map (·.1)).Nodup := so2.imp fun h => Nat.ne_of_lt h
 have ndp : ((putB c (n, s) Bk).map (·.1)).Nodup := by
  rw [putB_keys]
  split
  ·exact r.ndB
  ·rename_i h
   rw [List.nodup_append]
   exact ⟨r.ndB, by simp, fun a ha b hb => by rw [List.mem_singleton] at hb; subst hb; exact fun e => h (by rw [← e]; exact ha)⟩
 have mem : ∀ z, z ∈ A ++ (c, n, s) :: B ↔ z = (c, n, s) ∨ z.1 ≠ c ∧ z ∈ L := fun z => by
  rw [List.mem_append, List.mem_cons, ← hm z]
  constructor
  ·rintro (h | h | h)
   ·exact .inr (.inl h)
   ·exact .inl h
   ·exact .inr (.inr h)
  ·rintro (h | h | h)
   ·exact .inr (.inl h)
   ·exact .inl h
   ·exact .inr (.inr h)
 rw [e]
 refine ⟨?_, so2, fun y hy => ?_, ?_⟩
 ·refine (List.perm_ext_iff_of_nodup (nd_of ndp) (nd_of nd2)).2 fun z => ?_
  rw [mem_putB r.ndB, mem, r.pm.mem_iff]
 ·rcases (mem y).1 hy with rfl | ⟨-, h⟩
  ·exact ⟨hc, hn, hs⟩
  ·have := r.ok y h; exact ⟨this.1, by omega, this.2.2⟩
 ·rw [hlen]
  have := r.len
  split
  ·exact this
  ·rename_i q
   have : getB c L = none:= by cases h : getB c L with | none => rfl | some y => rw [h] at q; simp at q
   have := hl this
   omega
theorem Rel.okB {Bk L : List Rw} {i : Nat} (r : Rel Bk L i) (hi : i ≤ 1000) : ∀ y, y ∈ L → OkRw y := fun y hy => by
 have := r.ok y hy
 exact ⟨this.1, by have : M64 = 18446744073709551616 := rfl; omega, this.2.2⟩
theorem Rel.keys {Bk L : List Rw} {i : Nat} (r : Rel Bk L i) (hi : i ≤ 1000) : ((allP L).map (·.1)).Pairwise ltL := by
 unfold allP
 rw [List.pairwise_map, List.pairwise_flatMap]
 have so := r.so
 rw [List.pairwise_map] at so
 refine ⟨fun y hy => ?_, so.imp_of_mem fun {a b} ha hb h x hx z hz => ?_⟩
 ·have h60 := prs_len (r.okB hi y hy)
  obtain ⟨c, n, s⟩ := y
  rw [prs_len'] at h60
  have := outR_keys c n 0 s (by omega) (by omega)
  rw [List.pairwise_map] at this
  rw [prs_new]
  have e : restP c (cntP (textP n s)) 0 = []:= by unfold restP; rw [Nat.zero_sub]; rfl
  rw [e, List.append_nil] at this
  exact this
 ·obtain ⟨c, n, s⟩ := a
  obtain ⟨d, m, t⟩ := b
  rw [prs_new] at hx hz
  unfold newP at hx hz
  obtain ⟨j, -, rfl⟩ := List.mem_map.1 hx
  obtain ⟨k, -, rfl⟩ := List.mem_map.1 hz
  exact key_c h (r.ok _ hb).1 j k
end
end Go.Proofs.YtllmfnedkhiomaaDoor.S

namespace Go.Proofs.YtllmfnedkhiomaaDoor.S
open Go Go.AX
noncomputable section
set_option maxRecDepth 100000
theorem doneAgain (h : H) (b r : Nat) (Bk : List (Nat × Lst)) (k : BkAt h b r Bk) (c num : Nat) (s : List Nat) (hB : ∀ n s, getB c Bk = some (n, s) → n < 1000000) (x : List Nat) (hs : seenE Bk c num = (x, true, 0)) :
  PushC P (.enter 7 [.ptr b 0, .int .u64 (.ofNat c), .int .u64 (.ofNat num), .str s] h) (SaysG h (.tuple [.nilmap, .int .i64 (.ofNat 17)])) := by
 refine pushC_of_codeW (fn := Tryd.f7) (c := bodyC Tryd.f7) Tryd.func7 rfl ?_
 show codeW P 7 76 none _ _ _ _ _
 refine codeW_root ?_
 repeat' (first | ((with_reducible refine st1 ?_); (conv => whnf); (with_reducible refine ⟨?_⟩)) | ((with_reducible refine retW_intro rfl ?_); (conv => arg 2; whnf)) | ((with_reducible first | refine iB ?_ ?_ | refine gWt ?_ ?_ | refine gWf ?_ ?_) <;> intro hb <;> (try simp only [hb])) | (simp only [B, xB, F, reduceLT, reduceLeDiff, reduceEqDiff, reduceAdd, reduceMul, reduceSub, ↓reduceIte, eq_self]))
 refine ((seenC h b r Bk k c num hB).call P).mono P ?_
 rintro v h1 ⟨rfl, o1⟩
 rw [hs]
 unfold seenV
 repeat' (first | ((with_reducible refine st1 ?_); (conv => whnf); (with_reducible refine ⟨?_⟩)) | ((with_reducible refine retW_intro rfl ?_); (conv => arg 2; whnf)) | ((with_reducible first | refine iB ?_ ?_ | refine gWt ?_ ?_ | refine gWf ?_ ?_) <;> intro hb <;> (try simp only [hb])) | (simp only [B, xB, F, reduceLT, reduceLeDiff, reduceEqDiff, reduceAdd, reduceMul, reduceSub, ↓reduceIte, eq_self]))
 exact ⟨rfl, o1⟩
theorem doneLong (h : H) (b r : Nat) (Bk : List (Nat × Lst)) (k : BkAt h b r Bk) (c num : Nat) (s : List Nat) (hB : ∀ n s, getB c Bk = some (n, s) → n < 1000000) (x : List Nat) (hs : seenE Bk c num = (x, false, 0)) (hl : 4000 < s.length) :
  PushC P (.enter 7 [.ptr b 0, .int .u64 (.ofNat c), .int .u64 (.ofNat num), .str s] h) (SaysG h (.tuple [.nilmap, .int .i64 (.ofNat 3)])) := by
 have d1 : decide (4000 < s.length) = true := decide_eq_true hl
 refine pushC_of_codeW (fn := Tryd.f7) (c := bodyC Tryd.f7) Tryd.func7 rfl ?_
 show codeW P 7 76 none _ _ _ _ _
 refine codeW_root ?_
 repeat' (first | ((with_reducible refine st1 ?_); (conv => whnf); (with_reducible refine ⟨?_⟩)) | ((with_reducible refine retW_intro rfl ?_); (conv => arg 2; whnf)) | ((with_reducible first | refine iB ?_ ?_ | refine gWt ?_ ?_ | refine gWf ?_ ?_) <;> intro hb <;> (try simp only [hb])) | (simp only [B, xB, F, reduceLT, reduceLeDiff, reduceEqDiff, reduceAdd, reduceMul, reduceSub, ↓reduceIte, eq_self]))
 refine ((seenC h b r Bk k c num hB).call P).mono P ?_
 rintro v h1 ⟨rfl, o1⟩
 rw [hs]
 unfold seenV
 repeat' (first | ((with_reducible refine st1 ?_); (conv => whnf); (with_reducible refine ⟨?_⟩)) | ((with_reducible refine retW_intro rfl ?_); (conv => arg 2; whnf)) | ((with_reducible first | refine iB ?_ ?_ | refine gWt ?_ ?_ | refine gWf ?_ ?_) <;> intro hb <;> (try simp only [hb])) | (simp only [B, xB, F, reduceLT, reduceLeDiff, reduceEqDiff, reduceAdd, reduceMul, reduceSub, ↓reduceIte, eq_self, d1]))
 exact ⟨rfl, o1⟩
theorem ex_next {P : Program} {tm : T AV} {h : H} (x : Operand) (s : Bool) : execA P tm h (.next x s) = ob (evalA tm x) fun v => nextA v s h := by
 simp only [execA]
 cases evalA tm x <;> rfl
theorem rising0 (h0 : H) : PushC P (.enter 13 [.nilmap] h0) fun u h' => Og h0 h' [] ∧ Grows 2 h0.nx h' u ([] : List Kp).length (kpsC []) := by
 obtain ⟨h1, h1e⟩ : ∃ h1, h1 = h0.alloc (.mapIter none 0 [] 0) := ⟨_, rfl⟩
 have o1 : Og h0 h1 []:= by rw [h1e]; exact (Og.refl _ _).alloc _
 have hrg : rangeA P 31 .nilmap h0 = .val (.ptr h0.nx 0) h1:= by unfold rangeA; simp only [u31a, h1e]
 have hit : h1.t.get h0.nx = some (.mapIter none 0 [] 0):= by rw [h1e]; show (h0.t.set h0.nx _).get h0.nx = _; rw [T.get_set, if_pos rfl]
 have hnx : nextA (.ptr h0.nx 0) false h1 = .val (.tuple [.bool false]) h1:= by unfold nextA; simp only [hit]
 refine pushC_of_codeW (fn := Tryd.f13) (c := bodyC Tryd.f13) Tryd.func13 rfl ?_
 show codeW P 13 40 none _ _ _ _ _
 refine codeW_root ?_
 repeat' (first | ((with_reducible refine st1 ?_); (conv => whnf); (with_reducible refine ⟨?_⟩)) | ((with_reducible refine retW_intro rfl ?_); (conv => arg 2; whnf)) | ((with_reducible first | refine iB ?_ ?_ | refine gWt ?_ ?_ | refine gWf ?_ ?_) <;> intro hb <;> (try simp only [hb])) | (simp only [B, xB, F, reduceLT, reduceLeDiff, reduceEqDiff, reduceAdd, reduceMul, reduceSub, ↓reduceIte, eq_self, @ex_range, hrg]))
 refine st_loop (fun m ds tm h => ds = [] ∧ h = h1 ∧ tm.get 3 = some .nilslice ∧ tm.get 8 = some (.ptr h0.nx 0)) 0 rfl ⟨rfl, rfl, by simp only [B, xB, F, reduceLT, reduceLeDiff, reduceEqDiff, reduceAdd, reduceMul, reduceSub, ↓reduceIte, eq_self], by simp only [B, xB, F, reduceLT, reduceLeDiff, reduceEqDiff, reduceAdd, reduceMul, reduceSub, ↓reduceIte, eq_self]⟩ (fun m ds tm h hI => ?_)
 obtain ⟨rfl, rfl, t3, t8⟩ := hI
 repeat' (first | ((with_reducible refine st1 ?_); (conv => whnf); (with_reducible refine ⟨?_⟩)) | ((with_reducible refine retW_intro rfl ?_); (conv => arg 2; whnf)) | ((with_reducible first | refine iB ?_ ?_ | refine gWt ?_ ?_ | refine gWf ?_ ?_) <;> intro hb <;> (try simp only [hb])) | (simp only [B, xB, F, reduceLT, reduceLeDiff, reduceEqDiff, reduceAdd, reduceMul, reduceSub, ↓reduceIte, eq_self, t3, t8, @ex_next, hnx]))
 refine ((strs0 h).call P).mono P ?_
 rintro u h5 ⟨rfl, rfl⟩
 repeat' (first | ((with_reducible refine st1 ?_); (conv => whnf); (with_reducible refine ⟨?_⟩)) | ((with_reducible refine retW_intro rfl ?_); (conv => arg 2; whnf)) | ((with_reducible first | refine iB ?_ ?_ | refine gWt ?_ ?_ | refine gWf ?_ ?_) <;> intro hb <;> (try simp only [hb])) | (simp only [B, xB, F, reduceLT, reduceLeDiff, reduceEqDiff, reduceAdd, reduceMul, reduceSub, ↓reduceIte, eq_self, t3]))
 refine st_loop (fun m ds tm h => ds = [] ∧ h = h5 ∧ tm.get 3 = some .nilslice ∧ tm.get 5 = some .nilslice ∧ tm.get 6 = some (.int .i64 (.ofNat 0))) 0 rfl ⟨rfl, rfl, by simp only [B, xB, F, reduceLT, reduceLeDiff, reduceEqDiff, reduceAdd, reduceMul, reduceSub, ↓reduceIte, eq_self, t3], by simp only [B, xB, F, reduceLT, reduceLeDiff, reduceEqDiff, reduceAdd, reduceMul, reduceSub, ↓reduceIte, eq_self], by simp only [B, xB, F, reduceLT, reduceLeDiff, reduceEqDiff, reduceAdd, reduceMul, reduceSub, ↓reduceIte, eq_self]⟩ (fun m ds tm h hI => ?_)
 clear t3 t8
 obtain ⟨rfl, rfl, t3, t5, t6⟩ := hI
 repeat' (first | ((with_reducible refine st1 ?_); (conv => whnf); (with_reducible refine ⟨?_⟩)) | ((with_reducible refine retW_intro rfl ?_); (conv => arg 2; whnf)) | ((with_reducible first | refine iB ?_ ?_ | refine gWt ?_ ?_ | refine gWf ?_ ?_) <;> intro hb <;> (try simp only [hb])) | (simp only [B, xB, F, reduceLT, reduceLeDiff, reduceEqDiff, reduceAdd, reduceMul, reduceSub, ↓reduceIte, eq_self, t3, t5, t6]))
 exact ⟨o1, Grows.none⟩
theorem seen_ok {L : List Rw} {c n : Nat} {x : List Nat} (h : seenE L c n = (x, false, 0)) : c < 281474976710656 ∧ (getB c L = none → L.length < 64 ∧ n = 1) ∧ (∀ m s, getB c L = some (m, s) → n = m + 1) := by
 unfold seenE at h
 split at h
 ·cases h
 ·rename_i q
  refine ⟨by omega, fun hg => ?_, fun m s hg => ?_⟩
  ·rw [hg] at h
   simp only at h
   split at h
   ·cases h
   ·split at h
    ·cases h
    ·exact ⟨by omega, by omega⟩
  ·rw [hg] at h
   simp only at h
   split at h
   ·cases h
   ·split at h
    ·cases h
    ·split at h
     ·cases h
     ·omega
structure Two (h0 h : H) (bb rb b2 : Nat) (Bk L : List Rw) (v : AV) (i : Nat) : Prop where
 oo : Og h0 h []
 bk : BkAt h bb rb Bk
 rf : RfAt h b2 L v
 rl : Rel Bk L i
 ge : h0.nx ≤ bb ∧ h0.nx ≤ rb ∧ bb < b2 ∧ rb < b2
theorem Two.keep {h0 h h' : H} {bb rb b2 : Nat} {Bk L : List Rw} {v : AV} {i : Nat} (t : Two h0 h bb rb b2 Bk L v i) (o : Og h h' []) : Two h0 h' bb rb b2 Bk L v i :=
 ⟨t.oo.t o, t.bk.keep o (by simp) (by simp), t.rf.keep o (by simp), t.rl, t.ge⟩
structure PyI (h0 : H) (va : AV) (n : Nat) (bb rb b2 : Nat) (m : Nat) (ds : List Nat) (tm : T AV) (h : H) (i : Nat) (Bk L : List Rw) (v : AV) : Prop where
 ds : ds = []
 nn : m = min n 90 - i
 ii : i ≤ min n 90
 t0 : tm.get 0 = some va
 t3 : tm.get 3 = some (.ptr bb 0)
 t4 : tm.get 4 = some (.ptr b2 0)
 t5 : tm.get 5 = some (.int .i64 (.ofNat i))
 tw : Two h0 h bb rb b2 Bk L v i
theorem playTail (h0 h : H) (va : AV) (n bb rb b2 i : Nat) (Bk L : List Rw) (v : AV) (e : Nat) (mv nv : AV) (out : List Kp) (bn : Nat) (tw : Two h0 h bb rb b2 Bk L v (i + 1)) (hi : i < min n 90)
  (hR : ∀ h', Og h h' [] → PushC P (.enter 13 [mv] h') fun u h'' => Og h' h'' [] ∧ Grows 2 h'.nx h'' u out.length (kpsC out)) (gn : Grows 2 bn h nv out.length (kpsC out)) (hmv : mv.one = true) (hz : out.length ≤ 1000)
  (tm : T AV) (t0 : tm.get 0 = some va) (t3 : tm.get 3 = some (.ptr bb 0)) (t4 : tm.get 4 = some (.ptr b2 0)) (t5 : tm.get 5 = some (.int .i64 (.ofNat i))) (t13 : tm.get 13 = some mv) (t14 : tm.get 14 = some (.int .i64 (.ofNat e))) (t15 : tm.get 15 = some nv) (t16 : tm.get 16 = some (.int .i64 (.ofNat e))) (K : KQ)
  (hK : ∀ (tm2 : T AV) (h2 : H), Two h0 h2 bb rb b2 Bk L v (i + 1) → tm2.get 0 = some va → tm2.get 3 = some (.ptr bb 0) → tm2.get 4 = some (.ptr b2 0) → tm2.get 5 = some (.int .i64 (.ofNat i)) → K .norm [] tm2 h2) :
  codeW P 4 128 none (codeI (bodyC Tryd.f4) [1, 1, 1, 1, 1, 0, 0, 1, 0, 0, 1, 0, 1, 1]) [] tm h K := by
 have de : decide (e = e) = true := decide_eq_true rfl
 have nvo := gn.one
 have c2 := tw.rf.c0
 have v1 := tw.rf.gr.one
 have hlen := tw.rf.gr.slice.len (P := P) u39a
 have dl : decide (Bk.length = L.length) = true := decide_eq_true tw.rl.pm.length_eq
 repeat' (first | ((with_reducible refine st1 ?_); (conv => whnf); (with_reducible refine ⟨?_⟩)) | ((with_reducible refine st_dp ord4_0 ?_ rfl rfl ?_); exact rfl; (conv => arg 4; whnf); (conv => arg 3; whnf)) | ((with_reducible refine retW_intro rfl ?_); (conv => arg 2; whnf)) | ((with_reducible first | refine iB ?_ ?_ | refine gWt ?_ ?_ | refine gWf ?_ ?_ | refine gXt ?_ ?_ | refine gXf ?_ ?_) <;> intro hb <;> (try simp only [hb])) | ((with_reducible show drawP _ _ _ _ _ _ _ _ _); first | ((with_reducible apply kP_rd); exact rfl; exact rfl) | ((with_reducible apply kP_rg); exact rfl; exact rfl; exact rfl) | ((with_reducible apply kP_cv); exact rfl; exact rfl; kernel_rfl) | ((with_reducible apply kP_al); exact rfl; exact rfl; exact rfl) | ((with_reducible apply kP_fl); exact rfl; exact rfl; exact rfl) | ((with_reducible apply kP_ex); exact rfl; exact rfl; kernel_rfl; exact rfl) | ((with_reducible apply kP_eg); exact rfl; exact rfl; kernel_rfl; exact rfl) | ((with_reducible refine kP_nl ?_ ?_))) | ((with_reducible show eOk _ _ _ _ _ _); first | (exact eok_nil) | (refine ke_rd ?_ ?_ ?_; exact rfl) | (apply ke_rg; exact rfl; exact rfl) | (refine ke_cv ?_ ?_ ?_ ?_; exact rfl; kernel_rfl) | (apply ke_fl; exact rfl) | (apply ke_al; exact rfl; exact rfl)) | ((with_reducible refine freshIs_new ?_); kernel_rfl) | (simp only [B, xB, F, reduceLT, reduceLeDiff, reduceEqDiff, reduceAdd, reduceMul, reduceSub, ↓reduceIte, eq_self, t0, t3, t4, t5, t13, t14, t15, t16, de, Bool.not_true, hmv, nvo]))
 refine ((hR h (Og.refl _ _)).call P).mono P ?_
 rintro u h1 ⟨o1, g1⟩
 have g1o := g1.one
 have gn1 : Grows 2 bn h1 nv out.length (kpsC out) := gn.of_get o1.1.1 (fun d e => o1.1.2 d (gn.base e).2 (by simp))
 repeat' (first | ((with_reducible refine st1 ?_); (conv => whnf); (with_reducible refine ⟨?_⟩)) | ((with_reducible refine st_dp ord4_0 ?_ rfl rfl ?_); exact rfl; (conv => arg 4; whnf); (conv => arg 3; whnf)) | ((with_reducible refine retW_intro rfl ?_); (conv => arg 2; whnf)) | ((with_reducible first | refine iB ?_ ?_ | refine gWt ?_ ?_ | refine gWf ?_ ?_ | refine gXt ?_ ?_ | refine gXf ?_ ?_) <;> intro hb <;> (try simp only [hb])) | ((with_reducible show drawP _ _ _ _ _ _ _ _ _); first | ((with_reducible apply kP_rd); exact rfl; exact rfl) | ((with_reducible apply kP_rg); exact rfl; exact rfl; exact rfl) | ((with_reducible apply kP_cv); exact rfl; exact rfl; kernel_rfl) | ((with_reducible apply kP_al); exact rfl; exact rfl; exact rfl) | ((with_reducible apply kP_fl); exact rfl; exact rfl; exact rfl) | ((with_reducible apply kP_ex); exact rfl; exact rfl; kernel_rfl; exact rfl) | ((with_reducible apply kP_eg); exact rfl; exact rfl; kernel_rfl; exact rfl) | ((with_reducible refine kP_nl ?_ ?_))) | ((with_reducible show eOk _ _ _ _ _ _); first | (exact eok_nil) | (refine ke_rd ?_ ?_ ?_; exact rfl) | (apply ke_rg; exact rfl; exact rfl) | (refine ke_cv ?_ ?_ ?_ ?_; exact rfl; kernel_rfl) | (apply ke_fl; exact rfl) | (apply ke_al; exact rfl; exact rfl)) | ((with_reducible refine freshIs_new ?_); kernel_rfl) | (simp only [B, xB, F, reduceLT, reduceLeDiff, reduceEqDiff, reduceAdd, reduceMul, reduceSub, ↓reduceIte, eq_self, t0, t3, t4, t5, t13, t14, t15, t16, de, Bool.not_true, hmv, nvo, g1o]))
 refine ((sameC h1 u nv out _ _ g1 gn1 (by omega)).call P).mono P ?_
 rintro _ h2 ⟨rfl, o2⟩
 have tw2 := (tw.keep o1).keep o2
 have c2 := tw2.rf.c0
 repeat' (first | ((with_reducible refine st1 ?_); (conv => whnf); (with_reducible refine ⟨?_⟩)) | ((with_reducible refine st_dp ord4_0 ?_ rfl rfl ?_); exact rfl; (conv => arg 4; whnf); (conv => arg 3; whnf)) | ((with_reducible refine retW_intro rfl ?_); (conv => arg 2; whnf)) | ((with_reducible first | refine iB ?_ ?_ | refine gWt ?_ ?_ | refine gWf ?_ ?_ | refine gXt ?_ ?_ | refine gXf ?_ ?_) <;> intro hb <;> (try simp only [hb])) | ((with_reducible show drawP _ _ _ _ _ _ _ _ _); first | ((with_reducible apply kP_rd); exact rfl; exact rfl) | ((with_reducible apply kP_rg); exact rfl; exact rfl; exact rfl) | ((with_reducible apply kP_cv); exact rfl; exact rfl; kernel_rfl) | ((with_reducible apply kP_al); exact rfl; exact rfl; exact rfl) | ((with_reducible apply kP_fl); exact rfl; exact rfl; exact rfl) | ((with_reducible apply kP_ex); exact rfl; exact rfl; kernel_rfl; exact rfl) | ((with_reducible apply kP_eg); exact rfl; exact rfl; kernel_rfl; exact rfl) | ((with_reducible refine kP_nl ?_ ?_))) | ((with_reducible show eOk _ _ _ _ _ _); first | (exact eok_nil) | (refine ke_rd ?_ ?_ ?_; exact rfl) | (apply ke_rg; exact rfl; exact rfl) | (refine ke_cv ?_ ?_ ?_ ?_; exact rfl; kernel_rfl) | (apply ke_fl; exact rfl) | (apply ke_al; exact rfl; exact rfl)) | ((with_reducible refine freshIs_new ?_); kernel_rfl) | (simp only [B, xB, F, reduceLT, reduceLeDiff, reduceEqDiff, reduceAdd, reduceMul, reduceSub, ↓reduceIte, eq_self, t0, t3, t4, t5, t13, t14, t15, t16, de, Bool.not_true, hmv, nvo, g1o, c2, v1, hlen]))
 refine ((lenC h2 bb rb Bk tw2.bk).call P).mono P ?_
 rintro _ h3 ⟨rfl, o3⟩
 have tw3 := tw2.keep o3
 have c3 := tw3.rf.c0
 repeat' (first | ((with_reducible refine st1 ?_); (conv => whnf); (with_reducible refine ⟨?_⟩)) | ((with_reducible refine st_dp ord4_0 ?_ rfl rfl ?_); exact rfl; (conv => arg 4; whnf); (conv => arg 3; whnf)) | ((with_reducible refine retW_intro rfl ?_); (conv => arg 2; whnf)) | ((with_reducible first | refine iB ?_ ?_ | refine gWt ?_ ?_ | refine gWf ?_ ?_ | refine gXt ?_ ?_ | refine gXf ?_ ?_) <;> intro hb <;> (try simp only [hb])) | ((with_reducible show drawP _ _ _ _ _ _ _ _ _); first | ((with_reducible apply kP_rd); exact rfl; exact rfl) | ((with_reducible apply kP_rg); exact rfl; exact rfl; exact rfl) | ((with_reducible apply kP_cv); exact rfl; exact rfl; kernel_rfl) | ((with_reducible apply kP_al); exact rfl; exact rfl; exact rfl) | ((with_reducible apply kP_fl); exact rfl; exact rfl; exact rfl) | ((with_reducible apply kP_ex); exact rfl; exact rfl; kernel_rfl; exact rfl) | ((with_reducible apply kP_eg); exact rfl; exact rfl; kernel_rfl; exact rfl) | ((with_reducible refine kP_nl ?_ ?_))) | ((with_reducible show eOk _ _ _ _ _ _); first | (exact eok_nil) | (refine ke_rd ?_ ?_ ?_; exact rfl) | (apply ke_rg; exact rfl; exact rfl) | (refine ke_cv ?_ ?_ ?_ ?_; exact rfl; kernel_rfl) | (apply ke_fl; exact rfl) | (apply ke_al; exact rfl; exact rfl)) | ((with_reducible refine freshIs_new ?_); kernel_rfl) | (simp only [B, xB, F, reduceLT, reduceLeDiff, reduceEqDiff, reduceAdd, reduceMul, reduceSub, ↓reduceIte, eq_self, t0, t3, t4, t5, t13, t14, t15, t16, de, Bool.not_true, hmv, nvo, g1o, c2, c3, v1, hlen, dl]))
 exact hK _ _ tw3 (by simp only [B, xB, F, reduceLT, reduceLeDiff, reduceEqDiff, reduceAdd, reduceMul, reduceSub, ↓reduceIte, eq_self, t0]) (by simp only [B, xB, F, reduceLT, reduceLeDiff, reduceEqDiff, reduceAdd, reduceMul, reduceSub, ↓reduceIte, eq_self, t3]) (by simp only [B, xB, F, reduceLT, reduceLeDiff, reduceEqDiff, reduceAdd, reduceMul, reduceSub, ↓reduceIte, eq_self, t4]) (by simp only [B, xB, F, reduceLT, reduceLeDiff, reduceEqDiff, reduceAdd, reduceMul, reduceSub, ↓reduceIte, eq_self, t5])
end
end Go.Proofs.YtllmfnedkhiomaaDoor.S

namespace Go.Proofs.YtllmfnedkhiomaaDoor.S
open Go Go.AX
noncomputable section
set_option maxRecDepth 100000
structure Act where
 ask : Bool
 c : Nat
 n : Nat
 s : List Nat
def Act.cs (a : Act) : List AV := [.bool a.ask, .int .u64 (.ofNat a.c), .int .u64 (.ofNat a.n), .str a.s]
def Act.ok (a : Act) : Prop := a.c < M64 ∧ a.n < M64
theorem u37a : P.underlying 37 = some (.slice 43):= by kernel_rfl
theorem act_at {h : H} {b o n : Nat} {cap : Cap} {l : List Act} (hs : SliceAt h (.slice b o n cap) n (l.flatMap Act.cs)) {i : Nat} {x : Act} (hx : l[i]? = some x) :
  cellAt h b (o + i * 4) = some (.bool x.ask) ∧ cellAt h b (o + (i * 4 + 1)) = some (.int .u64 (.ofNat x.c)) ∧ cellAt h b (o + (i * 4 + 2)) = some (.int .u64 (.ofNat x.n)) ∧ cellAt h b (o + (i * 4 + 3)) = some (.str x.s) := by
 have key : ∀ (l : List Act) (i : Nat) (x : Act), l[i]? = some x → ∀ k, k < 4 → (l.flatMap Act.cs)[i * 4 + k]? = x.cs[k]? ∧ i * 4 + k < (l.flatMap Act.cs).length := by
  intro l
  induction l with
  | nil => intro i x h; simp at h
  | cons a l ih =>
   intro i x h k hk
   cases i with
   | zero =>
    simp at h; subst h
    rw [List.flatMap_cons, Nat.zero_mul, Nat.zero_add, List.getElem?_append_left (by simp [Act.cs]; omega), List.length_append]
    exact ⟨rfl, by simp [Act.cs]; omega⟩
   | succ i =>
    obtain ⟨h1, h2⟩ := ih i x (by simpa using h) k hk
    rw [List.flatMap_cons, List.getElem?_append_right (by simp [Act.cs]; omega), List.length_append]
    refine ⟨?_, by simp [Act.cs] at *; omega⟩
    rw [← h1]; congr 1; simp [Act.cs]; omega
 cases hs with
 | cell b o n cap cs hb hc =>
  have g : ∀ k, k < 4 → cellAt h b (o + (i * 4 + k)) = x.cs[k]? := fun k hk => by
   obtain ⟨h1, h2⟩ := key l i x hx k hk
   have := hc (i * 4 + k) h2
   rw [h1] at this
   exact this
  exact ⟨g 0 (by omega), g 1 (by omega), g 2 (by omega), g 3 (by omega)⟩
theorem doneMap {Bk L : List Rw} {i : Nat} (r : Rel Bk L i) (hi : i ≤ 1000) (c n : Nat) (s : List Nat) (hy : OkRw (c, n, s)) :
  ∃ X, outB c (textP n s) (match getB c Bk with | none => [] | some (n, r0) => outA c (cntP (textP n r0))) (cntP (textP n s)) = mS X ∧ X.Perm (outR (oldR c L) (prs (c, n, s))) ∧ ((outR (oldR c L) (prs (c, n, s))).map (·.1)).Pairwise ltL ∧ X.length = (outR (oldR c L) (prs (c, n, s))).length ∧ X.length ≤ 200 := by
 have h60 := prs_len hy
 rw [prs_len'] at h60
 obtain ⟨m, hm, e1, e2⟩ : ∃ m, m ≤ 60 ∧ (match getB c Bk with | none => [] | some (n, r0) => outA c (cntP (textP n r0))) = mS (restP c 0 m) ∧ (oldR c L).map (·.1) = (List.range m).map (keyP c) := by
  rw [r.get]
  unfold oldR
  cases h : getB c L with
  | none => exact ⟨0, by omega, rfl, rfl⟩
  | some y =>
   obtain ⟨k, t⟩ := y
   rw [getB_some r.nd] at h
   have h2 := prs_len (r.okB hi _ h)
   rw [prs_len'] at h2
   refine ⟨cntP (textP k t), h2, outA_eq c _ (by omega), ?_⟩
   show (prs (c, k, t)).map (·.1) = _
   unfold prs
   rw [List.map_map]; rfl
 have e3 := outR_eq c n m s (oldR c L) e2
 refine ⟨restP c (cntP (textP n s)) m ++ newP c (textP n s) (cntP (textP n s)), by rw [e1, outB_eq c m _ (by omega) _ (by omega)], by rw [e3]; exact List.perm_append_comm, by rw [e3]; exact outR_keys c n m s (by omega) (by omega), by rw [e3]; simp; omega, ?_⟩
 unfold restP newP
 simp; omega
theorem allP_perm : ∀ {V L : List Rw}, V.Perm L → (allP V).Perm (allP L) := by
 intro V L h
 unfold allP
 induction h with
 | nil => exact List.Perm.refl _
 | cons x _ ih => rw [List.flatMap_cons, List.flatMap_cons]; exact ih.append_left _
 | swap x y l =>
  rw [List.flatMap_cons, List.flatMap_cons, List.flatMap_cons, List.flatMap_cons, ← List.append_assoc, ← List.append_assoc]
  exact List.perm_append_comm.append_right _
 | trans _ _ ih1 ih2 => exact ih1.trans ih2
theorem playEnd (h0 h : H) (gl : Gl h0) (bb rb b2 i : Nat) (Bk L : List Rw) (v : AV) (tw : Two h0 h bb rb b2 Bk L v i) (hi : i ≤ 90) (tm : T AV) (t3 : tm.get 3 = some (.ptr bb 0)) (t4 : tm.get 4 = some (.ptr b2 0)) :
  codeW P 4 128 none (codeI (bodyC Tryd.f4) [1, 1, 1]) [] tm h (retK P Tryd.f4 fun v _ => v = .bool true) := by
 have okL := tw.rl.okB (by omega)
 have hLz := tw.rl.len
 have hkeys := tw.rl.keys (by omega)
 repeat' (first | ((with_reducible refine st1 ?_); (conv => whnf); (with_reducible refine ⟨?_⟩)) | ((with_reducible refine retW_intro rfl ?_); (conv => arg 2; whnf)) | ((with_reducible first | refine iB ?_ ?_ | refine gWt ?_ ?_ | refine gWf ?_ ?_) <;> intro hb <;> (try simp only [hb])) | (simp only [B, xB, F, reduceLT, reduceLeDiff, reduceEqDiff, reduceAdd, reduceMul, reduceSub, ↓reduceIte, eq_self, t3, t4]))
 refine ((pairsC h bb rb Bk tw.bk (gl.keep tw.oo (by simp)) (fun y hy => okL y (tw.rl.pm.mem_iff.1 hy))).call P).mono P ?_
 rintro _ h1 ⟨ro, V, rfl, o1, -, hV, mp1⟩
 have hVL : (allP V).Perm (allP L) := allP_perm (hV.trans tw.rl.pm)
 have hnd : ((allP V).map (·.1)).Nodup := (hVL.map (·.1)).nodup_iff.2 (nodup_of_lt hkeys)
 have mp1 : MapK encS h1 ro (mS (allP V)) := by
  have := outF_mS (allP V) [] (by simpa using hnd)
  rw [List.nil_append] at this
  rw [← this]; exact mp1
 have hal := allP_len okL
 have hlen : (allP V).length = (allP L).length := hVL.length_eq
 repeat' (first | ((with_reducible refine st1 ?_); (conv => whnf); (with_reducible refine ⟨?_⟩)) | ((with_reducible refine retW_intro rfl ?_); (conv => arg 2; whnf)) | ((with_reducible first | refine iB ?_ ?_ | refine gWt ?_ ?_ | refine gWf ?_ ?_) <;> intro hb <;> (try simp only [hb])) | (simp only [B, xB, F, reduceLT, reduceLeDiff, reduceEqDiff, reduceAdd, reduceMul, reduceSub, ↓reduceIte, eq_self, t3, t4]))
 refine ((risingC h1 ro (allP V) mp1 (by omega)).call P).mono P ?_
 rintro u h2 ⟨o2, V2, hV2, g2⟩
 rw [rising_eq hV2 hVL hkeys, hlen] at g2
 have g2o := g2.one
 have tw2 := (tw.keep o1).keep o2
 repeat' (first | ((with_reducible refine st1 ?_); (conv => whnf); (with_reducible refine ⟨?_⟩)) | ((with_reducible refine retW_intro rfl ?_); (conv => arg 2; whnf)) | ((with_reducible first | refine iB ?_ ?_ | refine gWt ?_ ?_ | refine gWf ?_ ?_) <;> intro hb <;> (try simp only [hb])) | (simp only [B, xB, F, reduceLT, reduceLeDiff, reduceEqDiff, reduceAdd, reduceMul, reduceSub, ↓reduceIte, eq_self, t3, t4, g2o]))
 refine ((rPairsC h2 b2 L v tw2.rf (by omega) okL).call P).mono P ?_
 rintro w h3 ⟨o3, g3⟩
 have g3o := g3.one
 have g23 : Grows 2 h1.nx h3 u (allP L).length (kpsC (allP L)) := g2.of_get o3.1.1 (fun d e => o3.1.2 d (g2.base e).2 (by simp))
 repeat' (first | ((with_reducible refine st1 ?_); (conv => whnf); (with_reducible refine ⟨?_⟩)) | ((with_reducible refine retW_intro rfl ?_); (conv => arg 2; whnf)) | ((with_reducible first | refine iB ?_ ?_ | refine gWt ?_ ?_ | refine gWf ?_ ?_) <;> intro hb <;> (try simp only [hb])) | (simp only [B, xB, F, reduceLT, reduceLeDiff, reduceEqDiff, reduceAdd, reduceMul, reduceSub, ↓reduceIte, eq_self, t3, t4, g2o, g3o]))
 refine ((sameC h3 u w (allP L) _ _ g23 g3 (by omega)).call P).mono P ?_
 rintro _ h4 ⟨rfl, o4⟩
 repeat' (first | ((with_reducible refine st1 ?_); (conv => whnf); (with_reducible refine ⟨?_⟩)) | ((with_reducible refine retW_intro rfl ?_); (conv => arg 2; whnf)) | ((with_reducible first | refine iB ?_ ?_ | refine gWt ?_ ?_ | refine gWf ?_ ?_) <;> intro hb <;> (try simp only [hb])) | (simp only [B, xB, F, reduceLT, reduceLeDiff, reduceEqDiff, reduceAdd, reduceMul, reduceSub, ↓reduceIte, eq_self, t3, t4, g2o, g3o]))
 refine ((worksC h4 (gl.keep ((tw2.keep o3).keep o4).oo (by simp))).call P).mono P ?_
 rintro _ h6 ⟨rfl, o6⟩
 repeat' (first | ((with_reducible refine st1 ?_); (conv => whnf); (with_reducible refine ⟨?_⟩)) | ((with_reducible refine retW_intro rfl ?_); (conv => arg 2; whnf)) | ((with_reducible first | refine iB ?_ ?_ | refine gWt ?_ ?_ | refine gWf ?_ ?_) <;> intro hb <;> (try simp only [hb])) | (simp only [B, xB, F, reduceLT, reduceLeDiff, reduceEqDiff, reduceAdd, reduceMul, reduceSub, ↓reduceIte, eq_self]))
set_option maxHeartbeats 4000000 in
theorem playsW (h0 : H) (gl : Gl h0) (va : AV) (l : List Act) (sl : SliceAt h0 va l.length (l.flatMap Act.cs)) (hl : ∀ x, x ∈ l → x.ok) :
  codeW P 4 128 none (bodyC Tryd.f4) [] (T.fill .e 0 [va]) h0 (retK P Tryd.f4 fun v _ => v = .bool true) := by
 have gx := gl.x
 have hlen := sl.len (P := P) u37a
 refine codeW_root ?_
 repeat' (first | ((with_reducible refine st1 ?_); (conv => whnf); (with_reducible refine ⟨?_⟩)) | ((with_reducible refine retW_intro rfl ?_); (conv => arg 2; whnf)) | ((with_reducible first | refine iB ?_ ?_ | refine gWt ?_ ?_ | refine gWf ?_ ?_) <;> intro hb <;> (try simp only [hb])) | (simp only [B, xB, F, reduceLT, reduceLeDiff, reduceEqDiff, reduceAdd, reduceMul, reduceSub, ↓reduceIte, eq_self]))
 refine ((newC h0).call P).mono P ?_
 rintro v h1 ⟨rfl, o1, k1⟩
 have x1 := k1.lt
 obtain ⟨h2, h2e⟩ : ∃ h2, h2 = h1.newCells 41 [AV.nilslice] := ⟨_, rfl⟩
 have o12 : Og h1 h2 []:= by rw [h2e]; exact (Og.refl _ _).new _ _
 have x2 : h2.nx = h1.nx + 1:= by rw [h2e]; rfl
 have rf2 : RfAt h2 h1.nx [] .nilslice := ⟨by omega, by rw [h2e, cellAt_new, if_pos rfl]; rfl, by rw [h2e, wrAt_new, if_pos rfl], Grows.none⟩
 repeat' (first | ((with_reducible refine st1 ?_); (conv => whnf); (with_reducible refine ⟨?_⟩)) | ((with_reducible refine retW_intro rfl ?_); (conv => arg 2; whnf)) | ((with_reducible first | refine iB ?_ ?_ | refine gWt ?_ ?_ | refine gWf ?_ ?_) <;> intro hb <;> (try simp only [hb])) | (simp only [B, xB, F, reduceLT, reduceLeDiff, reduceEqDiff, reduceAdd, reduceMul, reduceSub, ↓reduceIte, eq_self, ← h2e]))
 refine st_loop (fun m ds tm h => ∃ i Bk L v, PyI h0 va l.length (h0.nx + 1) h0.nx h1.nx m ds tm h i Bk L v) (min l.length 90) rfl ⟨0, [], [], .nilslice, rfl, rfl, Nat.zero_le _, by simp only [B, xB, F, reduceLT, reduceLeDiff, reduceEqDiff, reduceAdd, reduceMul, reduceSub, ↓reduceIte, eq_self], by simp only [B, xB, F, reduceLT, reduceLeDiff, reduceEqDiff, reduceAdd, reduceMul, reduceSub, ↓reduceIte, eq_self], by simp only [B, xB, F, reduceLT, reduceLeDiff, reduceEqDiff, reduceAdd, reduceMul, reduceSub, ↓reduceIte, eq_self], by simp only [B, xB, F, reduceLT, reduceLeDiff, reduceEqDiff, reduceAdd, reduceMul, reduceSub, ↓reduceIte, eq_self], ⟨o1.t o12, k1.keep o12 (by simp) (by simp), rf2, rel_nil, ⟨by omega, by omega, by omega, by omega⟩⟩⟩ (fun m ds tm h hI => ?_)
 obtain ⟨i, Bk, L, v, rfl, rfl, hi, t0, t3, t4, t5, tw⟩ := hI
 have gl1 := gl.keep tw.oo (by simp)
 by_cases hi1 : i < l.length
 ·by_cases hi2 : i < 90
  ·have d1 : decide (i < l.length) = true := decide_eq_true hi1
   have d2 : decide (i < 90) = true := decide_eq_true hi2
   have lt1 : (i < l.length) = True:= by simp [hi1]
   have wi : wrapF .i64 (Int.ofNat i + Int.ofNat 1) = Int.ofNat (i + 1) := i64_add (by omega)
   obtain ⟨x, hx⟩ : ∃ x, l[i]? = some x := ⟨_, List.getElem?_eq_getElem hi1⟩
   obtain ⟨hxc, hxn⟩ := hl x (List.mem_of_getElem? hx)
   have sm := sl.only tw.oo.1 (fun _ _ => by simp)
   obtain ⟨lb, lo, cap, rfl, hb', -⟩ := sm.place (by omega)
   obtain ⟨p0, p1, p2, p3⟩ := act_at sm hx
   obtain ⟨hA, hAe⟩ : ∃ hA, hA = (h.newCells 43 [.bool false, .int .u64 (.ofNat 0), .int .u64 (.ofNat 0), .str []]).sts h.nx 0 [.bool x.ask, .int .u64 (.ofNat x.c), .int .u64 (.ofNat x.n), .str x.s] := ⟨_, rfl⟩
   have oA : Og h hA []:= by rw [hAe]; exact ((Og.refl _ _).new _ _).sts (.inr (Nat.le_refl _))
   have xA : hA.nx = h.nx + 1:= by rw [hAe, nx_sts, nx_new]
   have wA : wrAt hA h.nx = true:= by rw [hAe, wrAt_sts, wrAt_new, if_pos rfl]
   have cA : ∀ j, j < 4 → cellAt hA h.nx j = x.cs[j]? := fun j hj => by
    rw [hAe, cellAt_sts (by rw [wrAt_new, if_pos rfl]), if_pos ⟨rfl, Nat.zero_le _, by simpa using hj⟩]; rfl
   have a0 : cellAt hA h.nx 0 = some (.bool x.ask) := cA 0 (by omega)
   have a3 : cellAt hA h.nx 3 = some (.str x.s) := cA 3 (by omega)
   obtain ⟨s, hs⟩ : ∃ s, s = x.s.take (min x.s.length 4100) := ⟨_, rfl⟩
   have hsl : s.length ≤ 4100:= by rw [hs, List.length_take]; omega
   have mn : (if Int.ofNat 4100 < Int.ofNat x.s.length then Int.ofNat 4100 else Int.ofNat x.s.length) = Int.ofNat (min x.s.length 4100) := by
    have : ∀ a : Nat, (if ((4100 : Nat) : Int) < (a : Int) then ((4100 : Nat) : Int) else (a : Int)) = ((min a 4100 : Nat) : Int) := fun a => by split <;> omega
    exact this _
   have cut := cut_hi x.s (min x.s.length 4100) (by omega)
   rw [← hs] at cut
   obtain ⟨hB, hBe⟩ : ∃ hB, hB = hA.sts h.nx 3 [.str s] := ⟨_, rfl⟩
   have oB : Og h hB []:= by rw [hBe]; exact oA.sts (.inr (Nat.le_refl _))
   have xB' : hB.nx = h.nx + 1:= by rw [hBe, nx_sts]; exact xA
   have cB : ∀ j, j < 3 → cellAt hB h.nx j = x.cs[j]? := fun j hj => by rw [hBe, cellAt_sts wA, if_neg (by simp; omega)]; exact cA j (by omega)
   have b0 : cellAt hB h.nx 0 = some (.bool x.ask) := cB 0 (by omega)
   have b1 : cellAt hB h.nx 1 = some (.int .u64 (.ofNat x.c)) := cB 1 (by omega)
   have b2 : cellAt hB h.nx 2 = some (.int .u64 (.ofNat x.n)) := cB 2 (by omega)
   have b3 : cellAt hB h.nx 3 = some (.str s):= by rw [hBe, cellAt_sts wA, if_pos ⟨rfl, Nat.le_refl _, by simp⟩]; rfl
   have twB := tw.keep oB
   have hge := tw.ge
   have hE0 := twB.rl.seen x.c x.n
   have okL := twB.rl.ok
   have hBd : ∀ n s, getB x.c Bk = some (n, s) → n < 1000000 ∧ s.length ≤ 4000 := fun n s q => by
    rw [twB.rl.get, getB_some twB.rl.nd] at q
    have := okL _ q
    simp only at this
    exact ⟨by omega, this.2.2⟩
   have hLz : L.length ≤ 900:= by have := twB.rl.len; omega
   have stepped : ∀ (tm2 : T AV) (h2 : H) (Bk' L' : List Rw) (v' : AV), Two h0 h2 (h0.nx + 1) h0.nx h1.nx Bk' L' v' (i + 1) → tm2.get 0 = some (.slice lb lo l.length cap) → tm2.get 3 = some (.ptr (h0.nx + 1) 0) → tm2.get 4 = some (.ptr h1.nx 0) → tm2.get 5 = some (.int .i64 (.ofNat (i + 1))) →
     ∃ m, m < min l.length 90 - i ∧ ∃ i Bk L v, PyI h0 (.slice lb lo l.length cap) l.length (h0.nx + 1) h0.nx h1.nx m [] tm2 h2 i Bk L v := fun tm2 h2 Bk' L' v' tw' q0 q3 q4 q5 => ⟨min l.length 90 - (i + 1), by omega, i + 1, Bk', L', v', rfl, rfl, by omega, q0, q3, q4, q5, tw'⟩
   obtain ⟨⟨xs, a, e⟩, hE⟩ : ∃ E, E = seenE L x.c x.n := ⟨_, rfl⟩
   rw [← hE] at hE0
   cases hask : x.ask with
   | true =>
    rw [hask] at p0 a0 b0 hAe
    repeat' (first | ((with_reducible refine st1 ?_); (conv => whnf); (with_reducible refine ⟨?_⟩)) | ((with_reducible refine retW_intro rfl ?_); (conv => arg 2; whnf)) | ((with_reducible first | refine iB ?_ ?_ | refine gWt ?_ ?_ | refine gWf ?_ ?_) <;> intro hb <;> (try simp only [hb])) | (simp only [B, xB, F, reduceLT, reduceLeDiff, reduceEqDiff, reduceAdd, reduceMul, reduceSub, ↓reduceIte, eq_self, t0, t3, t4, t5, hlen, d1, d2, lt1, p0, p1, p2, p3, ← hAe, a0, a3, mn, @ex_sl_h, cut, put_sts, wA, ← hBe, b0, b1, b2]))
    refine ((seenC hB _ _ Bk twB.bk x.c x.n (fun n s q => (hBd n s q).1)).call P).mono P ?_
    rintro _ h3 ⟨rfl, o3⟩
    have c1 := kc b1 o3 (by omega) (by simp)
    have c2 := kc b2 o3 (by omega) (by simp)
    have tw3 := twB.keep o3
    rw [hE0]
    unfold seenV
    repeat' (first | ((with_reducible refine st1 ?_); (conv => whnf); (with_reducible refine ⟨?_⟩)) | ((with_reducible refine retW_intro rfl ?_); (conv => arg 2; whnf)) | ((with_reducible first | refine iB ?_ ?_ | refine gWt ?_ ?_ | refine gWf ?_ ?_) <;> intro hb <;> (try simp only [hb])) | (simp only [B, xB, F, reduceLT, reduceLeDiff, reduceEqDiff, reduceAdd, reduceMul, reduceSub, ↓reduceIte, eq_self, t0, t3, t4, t5, c1, c2]))
    refine ((rSeenC h3 _ x.c x.n L v tw3.rf (by omega) hxn).call P).mono P ?_
    rintro _ h4 ⟨rfl, o4⟩
    have tw4 := tw3.keep o4
    rw [← hE]
    unfold seenV
    have dx : decide (xs = xs) = true := decide_eq_true rfl
    have da : (a == a) = true := beq_self_eq_true a
    have de : decide (e = e) = true := decide_eq_true rfl
    repeat' (first | ((with_reducible refine st1 ?_); (conv => whnf); (with_reducible refine ⟨?_⟩)) | ((with_reducible refine retW_intro rfl ?_); (conv => arg 2; whnf)) | ((with_reducible first | refine iB ?_ ?_ | refine gWt ?_ ?_ | refine gWf ?_ ?_) <;> intro hb <;> (try simp only [hb])) | (simp only [B, xB, F, reduceLT, reduceLeDiff, reduceEqDiff, reduceAdd, reduceMul, reduceSub, ↓reduceIte, eq_self, t5, dx, da, de, Bool.not_true, wi]))
    exact stepped _ h4 Bk L v ⟨tw4.oo, tw4.bk, tw4.rf, tw4.rl.mono (by omega), tw4.ge⟩ (by simp only [B, xB, F, reduceLT, reduceLeDiff, reduceEqDiff, reduceAdd, reduceMul, reduceSub, ↓reduceIte, eq_self, t0]) (by simp only [B, xB, F, reduceLT, reduceLeDiff, reduceEqDiff, reduceAdd, reduceMul, reduceSub, ↓reduceIte, eq_self, t3]) (by simp only [B, xB, F, reduceLT, reduceLeDiff, reduceEqDiff, reduceAdd, reduceMul, reduceSub, ↓reduceIte, eq_self, t4]) (by simp only [B, xB, F, reduceLT, reduceLeDiff, reduceEqDiff, reduceAdd, reduceMul, reduceSub, ↓reduceIte, eq_self])
   | false =>
    rw [hask] at p0 a0 b0 hAe
    repeat' (first | ((with_reducible refine st1 ?_); (conv => whnf); (with_reducible refine ⟨?_⟩)) | ((with_reducible refine retW_intro rfl ?_); (conv => arg 2; whnf)) | ((with_reducible first | refine iB ?_ ?_ | refine gWt ?_ ?_ | refine gWf ?_ ?_) <;> intro hb <;> (try simp only [hb])) | (simp only [B, xB, F, reduceLT, reduceLeDiff, reduceEqDiff, reduceAdd, reduceMul, reduceSub, ↓reduceIte, eq_self, t0, t3, t4, t5, hlen, d1, d2, lt1, p0, p1, p2, p3, ← hAe, a0, a3, mn, @ex_sl_h, cut, put_sts, wA, ← hBe, b0, b1, b2, b3]))
    have hcase : (∃ e', PushC P (.enter 7 [.ptr (h0.nx + 1) 0, .int .u64 (.ofNat x.c), .int .u64 (.ofNat x.n), .str s] hB) (SaysG hB (.tuple [.nilmap, .int .i64 (.ofNat e')])) ∧
      ∀ h', Og hB h' [] → PushC P (.enter 11 [.ptr h1.nx 0, .int .u64 (.ofNat x.c), .int .u64 (.ofNat x.n), .str s] h') (SaysG h' (.tuple [.nilslice, .int .i64 (.ofNat e')]))) ∨ (seenE L x.c x.n = (xs, false, 0) ∧ s.length ≤ 4000) := by
     by_cases he : 0 < e
     ·exact .inl ⟨e, doneBad hB _ _ Bk twB.bk x.c x.n s (fun n s q => (hBd n s q).1) xs a e hE0 he, fun h' o' => rDoneBad h' _ x.c x.n s L v (twB.keep o').rf (by omega) hxn xs a e hE.symm he⟩
     ·obtain rfl : e = 0:= by omega
      cases a with
      | true => exact .inl ⟨17, doneAgain hB _ _ Bk twB.bk x.c x.n s (fun n s q => (hBd n s q).1) xs hE0, fun h' o' => rDoneAgain h' _ x.c x.n s L v (twB.keep o').rf (by omega) hxn xs hE.symm⟩
      | false =>
       by_cases hs4 : 4000 < s.length
       ·exact .inl ⟨3, doneLong hB _ _ Bk twB.bk x.c x.n s (fun n s q => (hBd n s q).1) xs hE0 hs4, fun h' o' => rDoneLong h' _ x.c x.n s L v (twB.keep o').rf (by omega) hxn xs hE.symm hs4⟩
       ·exact .inr ⟨hE.symm, by omega⟩
    rcases hcase with ⟨e', hD, hR⟩ | ⟨hEL, hs4⟩
    ·refine (hD.call P).mono P ?_
     rintro _ h3 ⟨rfl, o3⟩
     have c1 := kc b1 o3 (by omega) (by simp)
     have c2 := kc b2 o3 (by omega) (by simp)
     have c3 := kc b3 o3 (by omega) (by simp)
     repeat' (first | ((with_reducible refine st1 ?_); (conv => whnf); (with_reducible refine ⟨?_⟩)) | ((with_reducible refine retW_intro rfl ?_); (conv => arg 2; whnf)) | ((with_reducible first | refine iB ?_ ?_ | refine gWt ?_ ?_ | refine gWf ?_ ?_) <;> intro hb <;> (try simp only [hb])) | (simp only [B, xB, F, reduceLT, reduceLeDiff, reduceEqDiff, reduceAdd, reduceMul, reduceSub, ↓reduceIte, eq_self, t0, t3, t4, t5, c1, c2, c3]))
     refine ((hR h3 o3).call P).mono P ?_
     rintro _ h4 ⟨rfl, o4⟩
     have tw4 := (twB.keep o3).keep o4
     repeat' (first | (with_reducible refine stopC [1, 1, 1, 1, 1, 0, 0, 1, 0, 0, 1, 0, 1, 1] ?_) | ((with_reducible refine st1 ?_); (conv => whnf); (with_reducible refine ⟨?_⟩)) | ((with_reducible refine retW_intro rfl ?_); (conv => arg 2; whnf)) | ((with_reducible first | refine iB ?_ ?_ | refine gWt ?_ ?_ | refine gWf ?_ ?_) <;> intro hb <;> (try simp only [hb])) | (simp only [B, xB, F, reduceLT, reduceLeDiff, reduceEqDiff, reduceAdd, reduceMul, reduceSub, ↓reduceIte, eq_self, t0, t3, t4, t5]))
     refine ⟨playTail h0 h4 (.slice lb lo l.length cap) l.length _ _ _ i Bk L v e' .nilmap .nilslice [] 0 ⟨tw4.oo, tw4.bk, tw4.rf, tw4.rl.mono (by omega), tw4.ge⟩ (by omega) (fun h' _ => rising0 h') Grows.none rfl (by simp) _ (by simp only [B, xB, F, reduceLT, reduceLeDiff, reduceEqDiff, reduceAdd, reduceMul, reduceSub, ↓reduceIte, eq_self, t0]) (by simp only [B, xB, F, reduceLT, reduceLeDiff, reduceEqDiff, reduceAdd, reduceMul, reduceSub, ↓reduceIte, eq_self, t3]) (by simp only [B, xB, F, reduceLT, reduceLeDiff, reduceEqDiff, reduceAdd, reduceMul, reduceSub, ↓reduceIte, eq_self, t4]) (by simp only [B, xB, F, reduceLT, reduceLeDiff, reduceEqDiff, reduceAdd, reduceMul, reduceSub, ↓reduceIte, eq_self, t5]) (by simp only [B, xB, F, reduceLT, reduceLeDiff, reduceEqDiff, reduceAdd, reduceMul, reduceSub, ↓reduceIte, eq_self]) (by simp only [B, xB, F, reduceLT, reduceLeDiff, reduceEqDiff, reduceAdd, reduceMul, reduceSub, ↓reduceIte, eq_self]) (by simp only [B, xB, F, reduceLT, reduceLeDiff, reduceEqDiff, reduceAdd, reduceMul, reduceSub, ↓reduceIte, eq_self]) (by simp only [B, xB, F, reduceLT, reduceLeDiff, reduceEqDiff, reduceAdd, reduceMul, reduceSub, ↓reduceIte, eq_self]) _ ?_⟩
     intro tm2 h7 tw7 q0 q3 q4 q5
     repeat' (first | ((with_reducible refine st1 ?_); (conv => whnf); (with_reducible refine ⟨?_⟩)) | ((with_reducible refine retW_intro rfl ?_); (conv => arg 2; whnf)) | ((with_reducible first | refine iB ?_ ?_ | refine gWt ?_ ?_ | refine gWf ?_ ?_) <;> intro hb <;> (try simp only [hb])) | (simp only [B, xB, F, reduceLT, reduceLeDiff, reduceEqDiff, reduceAdd, reduceMul, reduceSub, ↓reduceIte, eq_self, q5, wi]))
     exact stepped _ h7 Bk L v tw7 (by simp only [B, xB, F, reduceLT, reduceLeDiff, reduceEqDiff, reduceAdd, reduceMul, reduceSub, ↓reduceIte, eq_self, q0]) (by simp only [B, xB, F, reduceLT, reduceLeDiff, reduceEqDiff, reduceAdd, reduceMul, reduceSub, ↓reduceIte, eq_self, q3]) (by simp only [B, xB, F, reduceLT, reduceLeDiff, reduceEqDiff, reduceAdd, reduceMul, reduceSub, ↓reduceIte, eq_self, q4]) (by simp only [B, xB, F, reduceLT, reduceLeDiff, reduceEqDiff, reduceAdd, reduceMul, reduceSub, ↓reduceIte, eq_self])
    ·have hM : M64 = 18446744073709551616 := rfl
     obtain ⟨hc48, hnew, hold⟩ := seen_ok hEL
     have hni : x.n ≤ i + 1 := by
      cases hg : getB x.c L with
      | none => have := (hnew hg).2; omega
      | some y =>
       obtain ⟨m, t⟩ := y
       have h1 := hold m t hg
       rw [getB_some twB.rl.nd] at hg
       have := (okL _ hg).2.1
       simp only at this
       omega
     have hy : OkRw (x.c, x.n, s) := ⟨hc48, hxn, hs4⟩
     obtain ⟨X, hX1, hX2, hX3, hX4, hX5⟩ := doneMap twB.rl (by omega) x.c x.n s hy
     have hEB : seenE Bk x.c x.n = (xs, false, 0):= by rw [twB.rl.seen]; exact hEL
     refine ((doneOk hB _ _ Bk twB.bk (gl1.keep oB (by simp)) x.c x.n s hBd hxn hs4 hxc xs hEB).call P).mono P ?_
     rintro _ h3 ⟨ro, rfl, D⟩
     have hrbn : h.nx ≠ h0.nx:= by have := tw.bk.lt; omega
     have c1 := kc b1 D.og (by omega) (by simp; omega)
     have c2 := kc b2 D.og (by omega) (by simp; omega)
     have c3 := kc b3 D.og (by omega) (by simp; omega)
     repeat' (first | ((with_reducible refine st1 ?_); (conv => whnf); (with_reducible refine ⟨?_⟩)) | ((with_reducible refine retW_intro rfl ?_); (conv => arg 2; whnf)) | ((with_reducible first | refine iB ?_ ?_ | refine gWt ?_ ?_ | refine gWf ?_ ?_) <;> intro hb <;> (try simp only [hb])) | (simp only [B, xB, F, reduceLT, reduceLeDiff, reduceEqDiff, reduceAdd, reduceMul, reduceSub, ↓reduceIte, eq_self, t0, t3, t4, t5, c1, c2, c3]))
     have rf3 := twB.rf.keep D.og (fun c hc => .inl (by rw [List.mem_singleton] at hc; omega))
     have hrl := twB.rf.lt
     have hvb : ∀ c, blkOf v = some c → h1.nx + 1 ≤ c ∧ c < hB.nx := fun c e => twB.rf.gr.base e
     refine ((rDoneOk h3 _ x.c x.n s L v rf3 hLz hxn hs4 xs hEL (fun y hy => by have := okL y hy; exact ⟨by omega, this.2.2⟩)).call P).mono P ?_
     rintro _ h4 ⟨w, rfl, DR⟩
     obtain ⟨v', rf4⟩ := DR.rf
     have x34 := DR.og.nx
     have xB3 := D.og.1.1
     have xoB := twB.oo.1.1
     have o04 : Og h0 h4 [] := ⟨⟨by omega, fun c hc _ => by
      rw [DR.og.old c (by omega) (by omega) (fun e => by have := (hvb c e).1; omega), D.og.1.2 c (by omega) (by simp; omega), twB.oo.1.2 c hc (by simp)]⟩, by rw [DR.og.g, D.og.2, twB.oo.2]⟩
     have hb4 : ∀ c, c < h1.nx → h4.t.get c = h3.t.get c := fun c hc => DR.og.old c (by omega) (by omega) (fun e => by have := (hvb c e).1; omega)
     have bk4 : BkAt h4 (h0.nx + 1) h0.nx (putB x.c (x.n, s) Bk) := ⟨by omega, by rw [cellAt_of_get (hb4 _ (by omega))]; exact D.bk.c0, D.bk.mm.get x34 (hb4 _ (by omega)), D.bk.ne⟩
     have hro := D.ge
     have hrolt := D.mp.lt
     have mp4 : MapK encS h4 ro (mS X) := by
      rw [← hX1]
      exact D.mp.get x34 (DR.og.old ro hrolt (by omega) (fun e => by have := (hvb ro e).2; omega))
     have tw4 : Two h0 h4 (h0.nx + 1) h0.nx h1.nx (putB x.c (x.n, s) Bk) (rowsN x.c (x.n, s) L) v' (i + 1) :=
      ⟨o04, bk4, rf4, twB.rl.put x.c x.n s hc48 hni hs4 (fun hg => (hnew hg).1), tw.ge⟩
     repeat' (first | (with_reducible refine stopC [1, 1, 1, 1, 1, 0, 0, 1, 0, 0, 1, 0, 1, 1] ?_) | ((with_reducible refine st1 ?_); (conv => whnf); (with_reducible refine ⟨?_⟩)) | ((with_reducible refine retW_intro rfl ?_); (conv => arg 2; whnf)) | ((with_reducible first | refine iB ?_ ?_ | refine gWt ?_ ?_ | refine gWf ?_ ?_) <;> intro hb <;> (try simp only [hb])) | (simp only [B, xB, F, reduceLT, reduceLeDiff, reduceEqDiff, reduceAdd, reduceMul, reduceSub, ↓reduceIte, eq_self, t0, t3, t4, t5]))
     refine ⟨playTail h0 h4 (.slice lb lo l.length cap) l.length _ _ _ i _ _ v' 0 (.map ro) w (outR (oldR x.c L) (prs (x.c, x.n, s))) h3.nx tw4 (by omega) (fun h' o' => (risingC h' ro X (mp4.keep o'.1 (by simp)) (by omega)).mono P ?_) DR.gr rfl (by omega) _ (by simp only [B, xB, F, reduceLT, reduceLeDiff, reduceEqDiff, reduceAdd, reduceMul, reduceSub, ↓reduceIte, eq_self, t0]) (by simp only [B, xB, F, reduceLT, reduceLeDiff, reduceEqDiff, reduceAdd, reduceMul, reduceSub, ↓reduceIte, eq_self, t3]) (by simp only [B, xB, F, reduceLT, reduceLeDiff, reduceEqDiff, reduceAdd, reduceMul, reduceSub, ↓reduceIte, eq_self, t4]) (by simp only [B, xB, F, reduceLT, reduceLeDiff, reduceEqDiff, reduceAdd, reduceMul, reduceSub, ↓reduceIte, eq_self, t5]) (by simp only [B, xB, F, reduceLT, reduceLeDiff, reduceEqDiff, reduceAdd, reduceMul, reduceSub, ↓reduceIte, eq_self]) (by simp only [B, xB, F, reduceLT, reduceLeDiff, reduceEqDiff, reduceAdd, reduceMul, reduceSub, ↓reduceIte, eq_self]) (by simp only [B, xB, F, reduceLT, reduceLeDiff, reduceEqDiff, reduceAdd, reduceMul, reduceSub, ↓reduceIte, eq_self]) (by simp only [B, xB, F, reduceLT, reduceLeDiff, reduceEqDiff, reduceAdd, reduceMul, reduceSub, ↓reduceIte, eq_self]) _ ?_⟩
     ·rintro u h'' ⟨o'', V, hV, g''⟩
      rw [rising_eq hV hX2 hX3, hX4] at g''
      exact ⟨o'', g''⟩
     intro tm2 h7 tw7 q0 q3 q4 q5
     repeat' (first | ((with_reducible refine st1 ?_); (conv => whnf); (with_reducible refine ⟨?_⟩)) | ((with_reducible refine retW_intro rfl ?_); (conv => arg 2; whnf)) | ((with_reducible first | refine iB ?_ ?_ | refine gWt ?_ ?_ | refine gWf ?_ ?_) <;> intro hb <;> (try simp only [hb])) | (simp only [B, xB, F, reduceLT, reduceLeDiff, reduceEqDiff, reduceAdd, reduceMul, reduceSub, ↓reduceIte, eq_self, q5, wi]))
     exact stepped _ h7 _ _ v' tw7 (by simp only [B, xB, F, reduceLT, reduceLeDiff, reduceEqDiff, reduceAdd, reduceMul, reduceSub, ↓reduceIte, eq_self, q0]) (by simp only [B, xB, F, reduceLT, reduceLeDiff, reduceEqDiff, reduceAdd, reduceMul, reduceSub, ↓reduceIte, eq_self, q3]) (by simp only [B, xB, F, reduceLT, reduceLeDiff, reduceEqDiff, reduceAdd, reduceMul, reduceSub, ↓reduceIte, eq_self, q4]) (by simp only [B, xB, F, reduceLT, reduceLeDiff, reduceEqDiff, reduceAdd, reduceMul, reduceSub, ↓reduceIte, eq_self])
  ·have d1 : decide (i < l.length) = true := decide_eq_true hi1
   have d2 : decide (i < 90) = false := decide_eq_false hi2
   repeat' (first | (with_reducible refine stopC [1, 1, 1] ?_) | ((with_reducible refine st1 ?_); (conv => whnf); (with_reducible refine ⟨?_⟩)) | ((with_reducible refine retW_intro rfl ?_); (conv => arg 2; whnf)) | ((with_reducible first | refine iB ?_ ?_ | refine gWt ?_ ?_ | refine gWf ?_ ?_) <;> intro hb <;> (try simp only [hb])) | (simp only [B, xB, F, reduceLT, reduceLeDiff, reduceEqDiff, reduceAdd, reduceMul, reduceSub, ↓reduceIte, eq_self, t0, t5, hlen, d1, d2]))
   exact ⟨playEnd h0 h gl _ _ _ i Bk L v tw (by omega) _ (by simp only [B, xB, F, reduceLT, reduceLeDiff, reduceEqDiff, reduceAdd, reduceMul, reduceSub, ↓reduceIte, eq_self, t3]) (by simp only [B, xB, F, reduceLT, reduceLeDiff, reduceEqDiff, reduceAdd, reduceMul, reduceSub, ↓reduceIte, eq_self, t4])⟩
 ·have d1 : decide (i < l.length) = false := decide_eq_false hi1
  repeat' (first | (with_reducible refine stopC [1, 1, 1] ?_) | ((with_reducible refine st1 ?_); (conv => whnf); (with_reducible refine ⟨?_⟩)) | ((with_reducible refine retW_intro rfl ?_); (conv => arg 2; whnf)) | ((with_reducible first | refine iB ?_ ?_ | refine gWt ?_ ?_ | refine gWf ?_ ?_) <;> intro hb <;> (try simp only [hb])) | (simp only [B, xB, F, reduceLT, reduceLeDiff, reduceEqDiff, reduceAdd, reduceMul, reduceSub, ↓reduceIte, eq_self, t0, t5, hlen, d1]))
  exact ⟨playEnd h0 h gl _ _ _ i Bk L v tw (by omega) _ (by simp only [B, xB, F, reduceLT, reduceLeDiff, reduceEqDiff, reduceAdd, reduceMul, reduceSub, ↓reduceIte, eq_self, t3]) (by simp only [B, xB, F, reduceLT, reduceLeDiff, reduceEqDiff, reduceAdd, reduceMul, reduceSub, ↓reduceIte, eq_self, t4])⟩
end
end Go.Proofs.YtllmfnedkhiomaaDoor.S

namespace Go.Proofs.YtllmfnedkhiomaaDoor.S
open Go Go.AX
noncomputable section
set_option maxRecDepth 100000
def tab64 : List Int := [0, 1, 56, 2, 57, 49, 28, 3, 61, 58, 42, 50, 38, 29, 17, 4, 62, 47, 59, 36, 45, 43, 51, 22, 53, 39, 33, 30, 24, 18, 12, 5, 63, 55, 48, 27, 60, 41, 37, 16, 46, 35, 44, 21, 52, 32, 23, 11, 54, 26, 40, 15, 34, 20, 31, 10, 25, 14, 19, 9, 13, 8, 7, 6]
theorem start {w : World} {l : List (String × DataW Unit)} (h : laidMet P l w) (hm : ("math/bits.deBruijn64tab", Rows.laid_math_bits_deBruijn64tab) ∈ l) :
  Gl (absHg w 4) ∧ 4 ≤ w.heap.size := by
 obtain ⟨g, t, cs, fuel, p, hg, hty, hvar, hd⟩ := Go.Lib.laidMet.reads h hm
 have e1 : P.globalNamed "math/bits.deBruijn64tab" = some 3:= by kernel_rfl
 have e2 : (P.globals[3]?).map (·.type) = some 130:= by kernel_rfl
 obtain rfl := Option.some.inj (e1.symm.trans hg)
 obtain rfl := Option.some.inj (e2.symm.trans hty)
 have hcs := Go.Lib.cells_of_tab (k := .u8) (zs := tab64) u130a (show P.underlying 5 = some (.int .u8) by kernel_rfl) (by kernel_rfl) (by kernel_rfl) hd
 unfold World.var? at hvar
 rw [hg] at hvar
 simp only [Option.bind_some] at hvar
 split at hvar
 ·rename_i c t' frz hb
  cases hvar
  have hlt : 3 < w.heap.size := (Array.getElem?_eq_some_iff.1 hb).1
  have h15 : cs[15]? = some (Value.int .u8 4) := by
   rw [← Array.getElem?_toList, hcs]; rfl
  refine ⟨⟨Nat.lt_succ_self _, ?_, hlt⟩, hlt⟩
  exact absHg_cell (v := .int .u8 4) (by unfold World.cell?; simp only [hb]; exact h15) rfl
 ·cases hvar
theorem u43t : P.underlying 43 = some (.struct (fieldsOf P 43)):= by kernel_rfl
theorem u4t : P.underlying 4 = some .bool:= by kernel_rfl
theorem u26t : P.underlying 26 = some (.int .u64):= by kernel_rfl
structure ActB where
 ask : Bool
 c : Nat
 n : Nat
 s : ByteArray
def ActB.a (x : ActB) : Act := ⟨x.ask, x.c, x.n, bytesOf x.s⟩
def ActB.ok (x : ActB) : Prop := x.a.ok
def ActB.cs (x : ActB) : List (Value × AV) := [(.bool x.ask, .bool x.ask), (.int .u64 (.ofNat x.c), .int .u64 (.ofNat x.c)), (.int .u64 (.ofNat x.n), .int .u64 (.ofNat x.n)), (.string x.s, .str (bytesOf x.s))]
theorem ActB.abs (y : ActB) (p : Value × AV) (n : Nat) (h : p ∈ y.cs) : absV n p.1 = some p.2 := by
 unfold ActB.cs at h
 simp only [List.mem_cons, List.mem_nil_iff, or_false] at h
 rcases h with rfl | rfl | rfl | rfl <;> rfl
theorem act_dec {K : Type} {enc : TypeId × Value → K} {w : World} {b : Nat} {sp : Nat → Bool} {hd : Bool} (n : Nat) (cs : List Value) (x : DataW K × List MemPlace) (h : DataW.trod enc P w b sp hd n 43 cs = some x) : ∃ a : ActB, a.ok ∧ cs = a.cs.map (·.1) := by
 obtain ⟨hl, n0, y0, h0⟩ := trod_field (i := 0) (ty := 4) (off := 0) u43t (by kernel_rfl) h
 obtain ⟨_, n1, y1, h1⟩ := trod_field (i := 1) (ty := 26) (off := 1) u43t (by kernel_rfl) h
 obtain ⟨_, n2, y2, h2⟩ := trod_field (i := 2) (ty := 26) (off := 2) u43t (by kernel_rfl) h
 obtain ⟨_, n3, y3, h3⟩ := trod_field (i := 3) (ty := 9) (off := 3) u43t (by kernel_rfl) h
 rw [show P.cellsOf 4 = 1 by kernel_rfl] at h0
 rw [show P.cellsOf 26 = 1 by kernel_rfl] at h1 h2
 rw [show P.cellsOf 9 = 1 by kernel_rfl] at h3
 rw [show P.cellsOf 43 = 4 by kernel_rfl] at hl
 obtain ⟨a, e0, _⟩ := DataW.trod_bool u4t h0
 obtain ⟨c, e1, q1⟩ := trod_nat (k := .u64) rfl u26t h1
 obtain ⟨m, e2, q2⟩ := trod_nat (k := .u64) rfl u26t h2
 obtain ⟨s, e3, _⟩ := DataW.trod_string u9a h3
 match cs, hl with
 | [c0, c1, c2, c3], _ =>
  simp at e0 e1 e2 e3
  exact ⟨⟨a, c, m, s⟩, ⟨q1, q2⟩, by rw [e0, e1, e2, e3]; rfl⟩
end
end Go.Proofs.YtllmfnedkhiomaaDoor.S
namespace Go.Proofs.YtllmfnedkhiomaaDoor.sessPlays
open Go.ChangeShapes Go.WideShapes Go.ChangeAt Go.RowKit
theorem own : ownKnob Tryd.prog.godebug = none:= by kernel_rfl
theorem laidOut : laidOutB Tryd.prog = true:= by kernel_rfl
theorem readable : ∀ t, t ∈ [37] → Tryd.prog.readableRec t = true ∧ t < Tryd.prog.types.size := by
 intro t ht
 simp only [List.mem_cons, List.mem_nil_iff, or_false] at ht
 rcases ht with rfl
 exact ⟨by kernel_rfl, of_decide_eq_true (by kernel_rfl)⟩
theorem plain (w : World) : laidMetH Tryd.prog Rows.sessPlaysRow.laid w = laidMet Tryd.prog Rows.sessPlaysRow.laid w := Go.MakeChecks.laidMetH_plain _ _ _ (by kernel_rfl)
set_option maxRecDepth 100000 in
theorem witness (os : Os) (args : Array Value) : laidMet Tryd.prog Rows.sessPlaysRow.laid ((World.laidAll Tryd.prog os Rows.sessPlaysRow.laid).forCall (fun _ _ => 0) ⟨#[], args, []⟩).memory :=
 laidMet_laidAll args (by kernel_rfl) (by kernel_rfl)
set_option maxRecDepth 100000 in
theorem walk (M : World) (gl : S.Gl (AX.absHg M 4)) (h4 : 4 ≤ M.heap.size) (vl : AX.AV) (l : List S.Act) (cl : Value) (hv : AX.VR (AX.absPhi M.heap.size) vl cl) (sl : AX.SliceAt (AX.absHg M 4) vl l.length (l.flatMap S.Act.cs)) (hl : ∀ x, x ∈ l → x.ok) :
  Calls Tryd.prog 4 #[cl] M fun e w' => e = .returned (.bool true) ∧ Below M.heap.size M w' := by
 have hw' := S.playsW (AX.absHg M 4) gl vl l sl hl
 refine (AX.calls_of_codeW (fn := Tryd.f4) (c := AX.bodyC Tryd.f4) Tryd.func4 rfl hw' (AX.absHg_rel M h4) (Nat.le_refl _) (cargs := #[cl]) ⟨hv, trivial⟩).mono ?_
 rintro e1 w' ⟨N', φ', cv', v, h', _, rfl, hq, _, hv', _, hb⟩
 have hq : v = .bool true := hq
 subst hq
 rw [AX.VR_bool] at hv'; subst hv'
 exact ⟨rfl, hb⟩
set_option maxRecDepth 100000 in
theorem lifted (os : Os) (started : os.Started) (H : Type) (enc : TypeId × Value → H) :
  ReturnsInHanded {} Tryd.checked os 4 .any (fun w args => (Rows.sessPlaysSpec.pre enc Tryd.prog Tryd.f4 [] false w args ∧ laidMetH Tryd.prog Rows.sessPlaysRow.laid w) ∧ sizedMet enc Tryd.prog Tryd.f4 (OpenSpec.ofChange Rows.sessPlaysSpec) false w args)
   (Rows.sessPlaysSpec.post enc Tryd.prog Tryd.f4 false true false false) := by
 refine returnsInHanded_of_change_and (C := Tryd.checked) (X := fun w _ => laidMetH Tryd.prog Rows.sessPlaysRow.laid w) (fun _ _ _ hh h => h.of_heap hh) own started (by kernel_rfl) Tryd.func4
  (ChangeSpec.witness_shaped (enc := enc) (C := Tryd.checked) (os := os) (X := fun w _ => laidMetH Tryd.prog Rows.sessPlaysRow.laid w) false (World.laidAll Tryd.prog os Rows.sessPlaysRow.laid) #[.slice none 0 0] 8 (World.laidAll_os _ _ _) (World.shaped_of_ZipB (by kernel_rfl) (by kernel_rfl)) (by kernel_rfl) (by kernel_rfl) (by kernel_rfl) (by rw [plain]; exact witness os _)) ?_
 intro M base args ds gs before hval0 hW _ _ hL _
 have hW' := hW
 have hlt := hW.lt
 obtain ⟨p, q, hA0, hV, rfl, hfz, hnd⟩ := hW
 have hA : DataW.TrodAll enc Tryd.prog M 0 (fun _ => true) true Tryd.f4.params.toList args.toList ds p := hA0
 rw [Tryd.params4] at hA hval0
 have hA1 := hA
 obtain ⟨v0, vs0, d0, ds0, p0, q0, hargs, rfl, rfl, g0, r0⟩ := trodAll_cons hA
 obtain ⟨rfl, rfl, rfl⟩ := trodAll_nil r0
 obtain rfl : args = #[v0]:= by cases args; simp_all
 obtain ⟨rfl, rfl⟩ := trodVars_none hV
 have hL' : laidMetH Tryd.prog Rows.sessPlaysRow.laid M := hL
 rw [plain] at hL'
 obtain ⟨gl, h4⟩ := S.start hL' (by simp [Rows.sessPlaysRow])
 obtain ⟨vl, l, hv, sl, hl, _⟩ := AX.rows_argV (size := 4) S.u37a (by kernel_rfl) (by omega) S.ActB.cs S.ActB.ok S.ActB.abs (fun n cs x h => S.act_dec n cs x h) (hval0 0 37 v0 rfl rfl) g0
 have sl' : AX.SliceAt (AX.absH M) vl (l.map S.ActB.a).length ((l.map S.ActB.a).flatMap S.Act.cs) := by
  rw [List.length_map, List.flatMap_map]
  exact sl
 simp only [List.append_nil] at hW' hlt
 refine (walk M gl h4 vl (l.map S.ActB.a) v0 hv (AX.absHg_slice sl') (fun x hx => by obtain ⟨y, hy, rfl⟩ := List.mem_map.1 hx; exact hl y hy)).mono fun e1 M' ⟨he, hb⟩ => ?_
 subst he
 exact ⟨_, rfl, _, [], _, [], _, [], hW', trodAll_cons_mk (shut_bool Tryd.underlying4 _) trodAll_mk0, AX.trodAll_below laidOut hb readable hA1 (fun p hp => hlt p (by simpa using hp)) _ (fun p hp => decide_eq_true (hlt p (by simpa using hp))), rfl, hb.frame _, fun h => by cases h⟩
theorem over : Rows.SessPlaysSaid :=
 OpenClaim.holds_of_wide 4 Tryd.f4 rfl rfl rfl rfl rfl rfl rfl ⟨rfl, rfl, rfl, rfl, rfl⟩ rfl rfl rfl rfl rfl (by kernel_rfl) Tryd.func4 (by kernel_rfl)
  (of_decide_eq_true (by kernel_rfl)) (by unfold Func.isWrapper; first | (rw [if_pos (by decide +kernel)]; kernel_rfl) | (rw [if_neg (by decide +kernel)]; exact ⟨rfl, rfl⟩))
  (fun os started H enc _ => lifted os started H enc)
theorem proved : Rows.SessPlaysCardSaid :=
 Claim7.holds_tied_plain_at .later [] [.data, .data, .data] true (true, "f5f5b4067cc1166c06b0a681ea8803a1f5ef13a1c01b11cf7cef40b33494c2ad") false
  over (fun _ h => by cases h) (by kernel_rfl) (fun _ h => by cases h) sessPlays_row_tie rfl ⟨rfl, rfl⟩ (by kernel_rfl) rfl
  (fun f fn hf hfn => by
   obtain rfl : f = 4 := Option.some.inj ((show Tryd.prog.funcNamed "sediment/sedimentlaw21.SessPlays" = some 4 by kernel_rfl).symm.trans hf) |>.symm
   obtain rfl : fn = Tryd.f4 := (Option.some.inj (Tryd.func4.symm.trans hfn)).symm
   refine ⟨by kernel_rfl, fun j t ht => ?_⟩
   have ht : (Tryd.f4.params)[j]? = some t := ht
   rw [← Array.getElem?_toList, Tryd.params4] at ht
   match j, ht with
   | 0, ht =>
    obtain rfl : 37 = t := Option.some.inj ht
    exact (show Tryd.prog.wantsStandIn 37 = false by kernel_rfl)
   | j + 1, ht => simp at ht)
  (by kernel_rfl)
#print axioms proved
end Go.Proofs.YtllmfnedkhiomaaDoor.sessPlays


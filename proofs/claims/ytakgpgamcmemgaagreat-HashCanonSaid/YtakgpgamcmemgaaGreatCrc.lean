/-
  crc.Sum: what a call of it comes to, as a contract.
-/
import Derived.Test.YtakgpgamcmemgaaGreatAxF
import Derived.Test.YtakgpgamcmemgaaGreatProg
import Derived.KernelRfl
set_option linter.unusedSimpArgs false
set_option linter.unusedVariables false
set_option linter.unusedSectionVars false
namespace Go.Proofs.YtakgpgamcmemgaaGreat.Crc
open Go.AX
noncomputable section
def L4 : List (Option Tmp × Op) := [(some 12, .binOp .lss 3 (.tmp 11) (.tmp 10) 3)]
def L5 : List (Option Tmp × Op) := [(some 13, .indexAddr 75 (.tmp 9) (.tmp 11)), (some 14, .load 9 (.tmp 13)), (some 6, .assign (.tmp 14))]
def L6 : List (Option Tmp × Op) := [(some 15, .move (.tmp 6)), (some 16, .call ⟨.builtin .len, #[.tmp 15], #[9]⟩), (some 17, .move (.const (.int .i64 0)))]
def L7 : List (Option Tmp × Op) := [(some 18, .binOp .lss 3 (.tmp 17) (.tmp 16) 3)]
def L8 : List (Option Tmp × Op) := [(some 19, .move (.tmp 17)), (some 7, .assign (.tmp 19))]
def L9 : List (Option Tmp × Op) := [(some 20, .move (.tmp 4)), (some 21, .binOp .shr 39 (.tmp 20) (.const (.int .u64 8)) 79), (some 22, .move (.tmp 4)), (some 23, .convert 39 5 (.tmp 22)),
  (some 24, .move (.tmp 6)), (some 25, .move (.tmp 7)), (some 26, .index 9 (.tmp 24) (.tmp 25)), (some 27, .binOp .xor 5 (.tmp 23) (.tmp 26) 5), (some 28, .indexAddr 143 (.tmp 3) (.tmp 27)), (some 29, .load 39 (.tmp 28)),
  (some 30, .binOp .xor 39 (.tmp 21) (.tmp 29) 39), (some 4, .assign (.tmp 30))]
def L10 : List (Option Tmp × Op) := [(some 31, .binOp .add 3 (.tmp 17) (.const (.int .i64 1)) 3), (some 17, .move (.tmp 31))]
def L11 : List (Option Tmp × Op) := [(some 32, .binOp .add 3 (.tmp 11) (.const (.int .i64 1)) 3), (some 11, .move (.tmp 32))]
noncomputable def cd (l : List Nat) : Code := codeAt Tryz.prog 31 l
theorem c4 : opsL (cd [1, 1, 1, 0, 1, 0, 0, 0]) = some L4 := by kernel_rfl
theorem c5 : opsL (cd [1, 1, 1, 0, 1, 0, 0, 1, 1, 0, 0, 0]) = some L5 := by kernel_rfl
theorem c6 : opsL (cd [1, 1, 1, 0, 1, 0, 0, 1, 1, 0, 0, 1, 0]) = some L6 := by kernel_rfl
theorem c7 : opsL (cd [1, 1, 1, 0, 1, 0, 0, 1, 1, 0, 0, 1, 1, 0, 0, 0]) = some L7 := by kernel_rfl
theorem c8 : opsL (cd [1, 1, 1, 0, 1, 0, 0, 1, 1, 0, 0, 1, 1, 0, 0, 1, 1, 0, 0, 0]) = some L8 := by kernel_rfl
theorem c9 : opsL (cd [1, 1, 1, 0, 1, 0, 0, 1, 1, 0, 0, 1, 1, 0, 0, 1, 1, 0, 0, 1]) = some L9 := by kernel_rfl
theorem c10 : opsL (cd [1, 1, 1, 0, 1, 0, 0, 1, 1, 0, 0, 1, 1, 0, 0, 1, 1, 1]) = some L10 := by kernel_rfl
theorem c11 : opsL (cd [1, 1, 1, 0, 1, 0, 0, 1, 1, 1]) = some L11 := by kernel_rfl
def crcB (tab : T Nat) (r b : Nat) : Nat :=
  match tab.get (((r % 256) % 256).xor (b % 256) % 256) with
  | some t => ((r / 256 % 4294967296).xor (t % 4294967296)) % 4294967296
  | none => 0
theorem fdiv_nat (a b : Nat) : Int.fdiv (Int.ofNat a) (Int.ofNat b) = Int.ofNat (a / b) := (Int.ofNat_fdiv a b).symm
theorem lt_nat (a b : Nat) : decide (Int.ofNat a < Int.ofNat b) = Nat.blt a b := by
  by_cases h : a < b
  · rw [show Nat.blt a b = true by rw [Nat.blt_eq]; exact h]; exact decide_eq_true (Int.ofNat_lt.2 h)
  · rw [show Nat.blt a b = false by rw [← Bool.not_eq_true, Nat.blt_eq]; exact h]; exact decide_eq_false (fun e => h (Int.ofNat_lt.1 e))
theorem emod_nat (a b : Nat) : Int.emod (Int.ofNat a) (Int.ofNat b) = Int.ofNat (a % b) := rfl
theorem emod32 (a : Nat) : Int.emod (Int.ofNat a) 4294967296 = Int.ofNat (a % 4294967296) := rfl
theorem okT9 : okT Tryz.prog 9 = true := by simp only [okT, Tryz.underlying9]; rfl
theorem c9' : Tryz.prog.cellsOf 9 = 1 := by kernel_rfl
theorem a9 : aggT Tryz.prog 9 = false := by kernel_rfl
theorem toNat_nat (a : Nat) : Int.toNat (Int.ofNat a) = a := rfl
theorem e8 : Int.ofNat (2 ^ min 8 (IntKind.bits .u32)) = Int.ofNat 256 := by decide
theorem e256 : (256 : Int) = Int.ofNat 256 := rfl
theorem okT39 : okT Tryz.prog 39 = true := by simp only [okT, Tryz.underlying39]; rfl
theorem c39 : Tryz.prog.cellsOf 39 = 1 := by kernel_rfl
theorem k5 : aggT Tryz.prog 39 = false := by kernel_rfl
theorem putT_lt {nt d : Nat} {tm : T AV} {v : AV} (h : Nat.blt d nt = true) : putT nt tm (some d) v = tm.set d (some v) := by simp only [putT, h]
theorem putT_none {nt : Nat} {tm : T AV} {v : AV} : putT nt tm none v = tm := rfl
variable {K : Hook} {tm : T AV} {h : H}
theorem ex7 {i n : Nat} (h17 : tm.get 17 = some (.int .i64 (.ofNat i))) (h16 : tm.get 16 = some (.int .i64 (.ofNat n))) :
    execO Tryz.prog K 35 tm h L7 = some (tm.set 18 (some (.bool (Nat.blt i n))), h) := by
  simp only [execO, stepO, execA, L7, evalA, h17, h16, apartA, binA, intB, optV, putT_lt, lt_nat, show Nat.blt 18 35 = true from rfl, IntKind.eqB]
theorem ex8 {i : Nat} (h17 : tm.get 17 = some (.int .i64 (.ofNat i))) :
    execO Tryz.prog K 35 tm h L8 = some ((tm.set 19 (some (.int .i64 (.ofNat i)))).set 7 (some (.int .i64 (.ofNat i))), h) := by
  simp only [execO, stepO, execA, L8, evalA, h17, optV, putT_lt, show Nat.blt 19 35 = true from rfl, show Nat.blt 7 35 = true from rfl, T.get_set, if_pos]
theorem ex9 {i B n r b : Nat} {s : List Nat} {cs : T AV} {esz : EK} {ro : Bool} {tab : T Nat} (h4 : tm.get 4 = some (.int .u32 (.ofNat r))) (h6 : tm.get 6 = some (.str s)) (h7 : tm.get 7 = some (.int .i64 (.ofNat i))) (h3 : tm.get 3 = some (.ptr B 0))
    (hb : s[i]? = some b) (hB : h.t.get B = some (.cells n cs esz ro)) (hcs : ∀ j, j < 256 → ∃ z, tab.get j = some z ∧ cs.get j = some (.int .u32 (.ofNat z))) :
    ∃ tm', execO Tryz.prog K 35 tm h L9 = some (tm', h) ∧ tm'.get 4 = some (.int .u32 (.ofNat (crcB tab r b))) ∧ ∀ t, t ≠ 4 → (t < 20 ∨ 30 < t) → tm'.get t = tm.get t := by
  obtain ⟨z, hz1, hz2⟩ := hcs (((r % 256) % 256).xor (b % 256) % 256) (Nat.mod_lt _ (by decide))
  have hx : (((r % 256) % 256).xor (b % 256) % 256).blt 256 = true := by rw [Nat.blt_eq]; exact Nat.mod_lt _ (by decide)
  obtain ⟨p, hp⟩ : ∃ p, execO Tryz.prog K 35 tm h L9 = p := ⟨_, rfl⟩
  rw [hp]
  simp (decide := true) only [execO, stepO, execA, L9, evalA, evalG, h4, h6, h7, h3, hB, T.get_set, putT_lt, optV, if_true, if_false, apartA, binA, indexA, indexAddrA, convertA, loadV, Tryz.underlying39, Tryz.underlying5, Tryz.underlying9, Tryz.underlying143,
      show ofVal (.int .u64 8) = some (.int .u64 (.ofNat 8)) from rfl, shiftB, fdiv_nat, forceInt_eq, wrapF, IntKind.eqB, intB, low, modF, hb, hx, hz2, e8, e256, emod_nat, toNat_nat, k5, c39, Bool.and_true, Nat.zero_add, Nat.mul_one, okT39] at hp
  subst hp
  refine ⟨_, rfl, ?_, fun t h1 h2 => ?_⟩
  · simp (decide := true) only [T.get_set, if_true, crcB, hz1, emod32]
  · have q : ∀ k : Nat, k = 4 ∨ (20 ≤ k ∧ k ≤ 30) → ¬ t = k := by intro k hk; omega
    simp only [T.get_set, q 4 (by omega), q 20 (by omega), q 21 (by omega), q 22 (by omega), q 23 (by omega), q 24 (by omega), q 25 (by omega), q 26 (by omega), q 27 (by omega), q 28 (by omega), q 29 (by omega), q 30 (by omega), if_false]
theorem add_wrap {i : Nat} (hi : i < 4611686018427387904) : forceInt (wrapF .i64 (Int.ofNat i + Int.ofNat 1)) (AV.int .i64) = .int .i64 (.ofNat (i + 1)) := by
  have e : Int.emod (Int.ofNat i + Int.ofNat 1) 18446744073709551616 = Int.ofNat (i + 1) := by
    show (((i : Nat) : Int) + ((1 : Nat) : Int)) % 18446744073709551616 = ((i + 1 : Nat) : Int)
    omega
  rw [forceInt_eq]
  simp only [wrapF, e]
  rw [if_pos]
  show ((i + 1 : Nat) : Int) < 9223372036854775808
  omega
theorem ex10 {i : Nat} (hi : i < 4611686018427387904) (h17 : tm.get 17 = some (.int .i64 (.ofNat i))) :
    execO Tryz.prog K 35 tm h L10 = some ((tm.set 31 (some (.int .i64 (.ofNat (i + 1))))).set 17 (some (.int .i64 (.ofNat (i + 1)))), h) := by
  simp (decide := true) only [execO, stepO, execA, L10, evalA, h17, optV, putT_lt, T.get_set, if_true, apartA, binA, intB, IntKind.eqB, show ofVal (.int .i64 1) = some (.int .i64 (.ofNat 1)) from rfl, add_wrap hi]
theorem ex11 {i : Nat} (hi : i < 4611686018427387904) (h11 : tm.get 11 = some (.int .i64 (.ofNat i))) :
    execO Tryz.prog K 35 tm h L11 = some ((tm.set 32 (some (.int .i64 (.ofNat (i + 1))))).set 11 (some (.int .i64 (.ofNat (i + 1)))), h) := by
  simp (decide := true) only [execO, stepO, execA, L11, evalA, h11, optV, putT_lt, T.get_set, if_true, apartA, binA, intB, IntKind.eqB, show ofVal (.int .i64 1) = some (.int .i64 (.ofNat 1)) from rfl, add_wrap hi]
theorem ex4 {i n : Nat} (h11 : tm.get 11 = some (.int .i64 (.ofNat i))) (h10 : tm.get 10 = some (.int .i64 (.ofNat n))) :
    execO Tryz.prog K 35 tm h L4 = some (tm.set 12 (some (.bool (Nat.blt i n))), h) := by
  simp (decide := true) only [execO, stepO, execA, L4, evalA, h11, h10, apartA, binA, intB, optV, putT_lt, lt_nat, IntKind.eqB]
theorem ex5 {i n c B o : Nat} {cap : Cap} {s : List Nat} {cs : T AV} {esz : EK} {ro : Bool} (h9 : tm.get 9 = some (.slice B o n cap)) (h11 : tm.get 11 = some (.int .i64 (.ofNat i))) (hi : i < n)
    (hB : h.t.get B = some (.cells c cs esz ro)) (hc : cs.get (o + i) = some (.str s)) :
    execO Tryz.prog K 35 tm h L5 = some (((tm.set 13 (some (.ptr B (o + i)))).set 14 (some (.str s))).set 6 (some (.str s)), h) := by
  have hb : Nat.blt i n = true := by rw [Nat.blt_eq]; exact hi
  simp (decide := true) only [execO, stepO, execA, L5, evalA, evalG, h9, h11, hb, indexAddrA, Tryz.underlying75, okT9, Bool.and_true, c9', Nat.mul_one, optV, putT_lt, T.get_set, if_true, loadV, a9, hB, hc]
theorem ex6 {s : List Nat} (h6 : tm.get 6 = some (.str s)) :
    execO Tryz.prog K 35 tm h L6 = some (((tm.set 15 (some (.str s))).set 16 (some (.int .i64 (.ofNat s.length)))).set 17 (some (.int .i64 (.ofNat 0))), h) := by
  simp (decide := true) only [execO, stepO, execA, L6, evalA, evalsA, h6, optV, putT_lt, T.get_set, if_true, builtinA, lenA, lenL_eq, Tryz.underlying9, show ofVal (.int .i64 0) = some (.int .i64 (.ofNat 0)) from rfl]
end
end Go.Proofs.YtakgpgamcmemgaaGreat.Crc
namespace Go.Proofs.YtakgpgamcmemgaaGreat.Crc
open Go.AX
noncomputable section
theorem i0 : seqOf (cd [1, 1, 1, 0, 1, 0, 0, 1, 1, 0, 0, 1, 1, 0, 0]) = some (cd [1, 1, 1, 0, 1, 0, 0, 1, 1, 0, 0, 1, 1, 0, 0, 0], cd [1, 1, 1, 0, 1, 0, 0, 1, 1, 0, 0, 1, 1, 0, 0, 1]) := by kernel_rfl
theorem i1 : seqOf (cd [1, 1, 1, 0, 1, 0, 0, 1, 1, 0, 0, 1, 1, 0, 0, 1]) = some (cd [1, 1, 1, 0, 1, 0, 0, 1, 1, 0, 0, 1, 1, 0, 0, 1, 0], cd [1, 1, 1, 0, 1, 0, 0, 1, 1, 0, 0, 1, 1, 0, 0, 1, 1]) := by kernel_rfl
theorem i2 : condOf (cd [1, 1, 1, 0, 1, 0, 0, 1, 1, 0, 0, 1, 1, 0, 0, 1, 0]) = some (.tmp 18, cd [1, 1, 1, 0, 1, 0, 0, 1, 1, 0, 0, 1, 1, 0, 0, 1, 0, 0], cd [1, 1, 1, 0, 1, 0, 0, 1, 1, 0, 0, 1, 1, 0, 0, 1, 0, 1]) := by kernel_rfl
theorem i3 : isSkip (cd [1, 1, 1, 0, 1, 0, 0, 1, 1, 0, 0, 1, 1, 0, 0, 1, 0, 0]) = true := by kernel_rfl
theorem i4 : exitOf (cd [1, 1, 1, 0, 1, 0, 0, 1, 1, 0, 0, 1, 1, 0, 0, 1, 0, 1]) = some 2 := by kernel_rfl
theorem i5 : seqOf (cd [1, 1, 1, 0, 1, 0, 0, 1, 1, 0, 0, 1, 1, 0, 0, 1, 1]) = some (cd [1, 1, 1, 0, 1, 0, 0, 1, 1, 0, 0, 1, 1, 0, 0, 1, 1, 0], cd [1, 1, 1, 0, 1, 0, 0, 1, 1, 0, 0, 1, 1, 0, 0, 1, 1, 1]) := by kernel_rfl
theorem i6 : blockOf (cd [1, 1, 1, 0, 1, 0, 0, 1, 1, 0, 0, 1, 1, 0, 0, 1, 1, 0]) = some (3, cd [1, 1, 1, 0, 1, 0, 0, 1, 1, 0, 0, 1, 1, 0, 0, 1, 1, 0, 0]) := by kernel_rfl
theorem i7 : seqOf (cd [1, 1, 1, 0, 1, 0, 0, 1, 1, 0, 0, 1, 1, 0, 0, 1, 1, 0, 0]) = some (cd [1, 1, 1, 0, 1, 0, 0, 1, 1, 0, 0, 1, 1, 0, 0, 1, 1, 0, 0, 0], cd [1, 1, 1, 0, 1, 0, 0, 1, 1, 0, 0, 1, 1, 0, 0, 1, 1, 0, 0, 1]) := by kernel_rfl
noncomputable def crcL (tab : T Nat) (r : Nat) (l : List Nat) : Nat :=
  List.rec (motive := fun _ => Nat → Nat) (fun r => r) (fun b _ ih r => forceN (crcB tab r b) ih) l r
theorem crcL_nil (tab : T Nat) (r : Nat) : crcL tab r [] = r := rfl
theorem crcL_cons (tab : T Nat) (r b : Nat) (l : List Nat) : crcL tab r (b :: l) = crcL tab (crcB tab r b) l := forceN_eq _ _
theorem inner {K : Hook} (hK : HookOk Tryz.prog K) {kd : CallKind} {cs0 : List AFrame} {k : List AItem} {h : H} {s : List Nat} {B n : Nat} {cs : T AV} {esz : EK} {ro : Bool} {tab : T Nat} (hs : s.length < 4611686018427387904)
    (hB : h.t.get B = some (.cells n cs esz ro)) (hcs : ∀ j, j < 256 → ∃ z, tab.get j = some z ∧ cs.get j = some (.int .u32 (.ofNat z))) : ∀ (bs : List Nat) (i r : Nat) (tm : T AV), s.drop i = bs → i ≤ s.length →
    tm.get 3 = some (.ptr B 0) → tm.get 4 = some (.int .u32 (.ofNat r)) → tm.get 6 = some (.str s) → tm.get 16 = some (.int .i64 (.ofNat s.length)) → tm.get 17 = some (.int .i64 (.ofNat i)) →
    ∃ tm', AX.Reach Tryz.prog (stR 31 35 tm (.code (cd [1, 1, 1, 0, 1, 0, 0, 1, 1, 0, 0, 1, 1, 0, 0]) :: .inLoop (cd [1, 1, 1, 0, 1, 0, 0, 1, 1, 0, 0, 1, 1, 0, 0]) :: .inBlock 2 :: k) kd cs0 h) (stR 31 35 tm' k kd cs0 h) ∧
      tm'.get 4 = some (.int .u32 (.ofNat (crcL tab r bs))) ∧ ∀ t, t ≠ 4 → t ≠ 7 → (t < 17 ∨ 31 < t) → tm'.get t = tm.get t
  | [], i, r, tm, hd, hi, h3, h4, h6, h16, h17 => by
    have hl : i = s.length := by have := congrArg List.length hd; simp at this; omega
    have hb : Nat.blt i s.length = false := by rw [← Bool.not_eq_true, Nat.blt_eq]; omega
    have e7 := ex7 (K := K) (h := h) h17 h16
    rw [hb] at e7
    refine ⟨_, ((reach_seq hK i0).trans ((reach_reg hK c7 e7).trans ((reach_seq hK i1).trans ((reach_condF hK i2 ?_).trans (reach_exit hK i4 (by simp (decide := true) only [aExitTo])))))), ?_, fun t h1 h2 h3 => ?_⟩
    · simp (decide := true) only [evalA, T.get_set, if_true]
    · simp (decide := true) only [T.get_set, if_false, h4, crcL_nil]
    · simp (decide := true) only [T.get_set, show ¬ t = 18 by omega, if_false]
  | b :: bs, i, r, tm, hd, hi, h3, h4, h6, h16, h17 => by
    have hl : i < s.length := by have := congrArg List.length hd; simp at this; omega
    have hb : Nat.blt i s.length = true := by rw [Nat.blt_eq]; omega
    have hsb : s[i]? = some b := by have := congrArg (·[0]?) hd; simpa using this
    have hd' : s.drop (i + 1) = bs := by rw [← List.drop_drop, hd]; rfl
    have e7 := ex7 (K := K) (h := h) h17 h16
    rw [hb] at e7
    have g8 : (tm.set 18 (some (.bool true))).get 17 = some (.int .i64 (.ofNat i)) := by simp (decide := true) only [T.get_set, if_false, h17]
    have e8 := ex8 (K := K) (h := h) g8
    obtain ⟨tm9, e9, q9, p9⟩ := ex9 (K := K) (h := h) (i := i) (B := B) (n := n) (r := r) (b := b) (s := s) (cs := cs) (esz := esz) (ro := ro) (tab := tab)
      (tm := ((tm.set 18 (some (.bool true))).set 19 (some (.int .i64 (.ofNat i)))).set 7 (some (.int .i64 (.ofNat i))))
      (by simp (decide := true) only [T.get_set, if_false, h4]) (by simp (decide := true) only [T.get_set, if_false, h6]) (by simp (decide := true) only [T.get_set, if_true]) (by simp (decide := true) only [T.get_set, if_false, h3]) hsb hB hcs
    have g17 : tm9.get 17 = some (.int .i64 (.ofNat i)) := by rw [p9 17 (by decide) (by decide)]; simp (decide := true) only [T.get_set, if_false, h17]
    have e10 := ex10 (K := K) (h := h) (i := i) (by omega) g17
    obtain ⟨tm', hR, hc, hp⟩ := inner hK (kd := kd) (cs0 := cs0) (k := k) hs hB hcs bs (i + 1) (crcB tab r b) ((tm9.set 31 (some (.int .i64 (.ofNat (i + 1))))).set 17 (some (.int .i64 (.ofNat (i + 1))))) hd' (by omega)
      (by simp (decide := true) only [T.get_set, if_false]; rw [p9 3 (by decide) (by decide)]; simp (decide := true) only [T.get_set, if_false, h3])
      (by simp (decide := true) only [T.get_set, if_false]; exact q9)
      (by simp (decide := true) only [T.get_set, if_false]; rw [p9 6 (by decide) (by decide)]; simp (decide := true) only [T.get_set, if_false, h6])
      (by simp (decide := true) only [T.get_set, if_false]; rw [p9 16 (by decide) (by decide)]; simp (decide := true) only [T.get_set, if_false, h16])
      (by simp (decide := true) only [T.get_set, if_true])
    refine ⟨tm', ?_, by rw [crcL_cons]; exact hc, fun t h1 h2 h3 => ?_⟩
    · refine (reach_seq hK i0).trans ((reach_reg hK c7 e7).trans ((reach_seq hK i1).trans ((reach_condT hK i2 ?_).trans ((reach_skip hK i3).trans ((reach_seq hK i5).trans ((reach_block hK i6).trans
        ((reach_seq hK i7).trans ((reach_reg hK c8 e8).trans ((reach_reg hK c9 e9).trans ((reach_inBlock hK).trans ((reach_reg hK c10 e10).trans ((reach_inLoop hK).trans hR))))))))))))
      simp (decide := true) only [evalA, T.get_set, if_true]
    · rw [hp t h1 h2 h3]
      simp only [T.get_set, show ¬ t = 17 by omega, show ¬ t = 31 by omega, if_false]
      rw [p9 t h1 (by omega)]
      simp only [T.get_set, show ¬ t = 18 by omega, show ¬ t = 19 by omega, show ¬ t = 7 by omega, if_false]
end
end Go.Proofs.YtakgpgamcmemgaaGreat.Crc
namespace Go.Proofs.YtakgpgamcmemgaaGreat.Crc
open Go.AX
noncomputable section
theorem o0 : seqOf (cd [1, 1, 1, 0, 1, 0, 0]) = some (cd [1, 1, 1, 0, 1, 0, 0, 0], cd [1, 1, 1, 0, 1, 0, 0, 1]) := by kernel_rfl
theorem o1 : seqOf (cd [1, 1, 1, 0, 1, 0, 0, 1]) = some (cd [1, 1, 1, 0, 1, 0, 0, 1, 0], cd [1, 1, 1, 0, 1, 0, 0, 1, 1]) := by kernel_rfl
theorem o2 : condOf (cd [1, 1, 1, 0, 1, 0, 0, 1, 0]) = some (.tmp 12, cd [1, 1, 1, 0, 1, 0, 0, 1, 0, 0], cd [1, 1, 1, 0, 1, 0, 0, 1, 0, 1]) := by kernel_rfl
theorem o3 : isSkip (cd [1, 1, 1, 0, 1, 0, 0, 1, 0, 0]) = true := by kernel_rfl
theorem o4 : exitOf (cd [1, 1, 1, 0, 1, 0, 0, 1, 0, 1]) = some 0 := by kernel_rfl
theorem o5 : seqOf (cd [1, 1, 1, 0, 1, 0, 0, 1, 1]) = some (cd [1, 1, 1, 0, 1, 0, 0, 1, 1, 0], cd [1, 1, 1, 0, 1, 0, 0, 1, 1, 1]) := by kernel_rfl
theorem o6 : blockOf (cd [1, 1, 1, 0, 1, 0, 0, 1, 1, 0]) = some (1, cd [1, 1, 1, 0, 1, 0, 0, 1, 1, 0, 0]) := by kernel_rfl
theorem o7 : seqOf (cd [1, 1, 1, 0, 1, 0, 0, 1, 1, 0, 0]) = some (cd [1, 1, 1, 0, 1, 0, 0, 1, 1, 0, 0, 0], cd [1, 1, 1, 0, 1, 0, 0, 1, 1, 0, 0, 1]) := by kernel_rfl
theorem o8 : seqOf (cd [1, 1, 1, 0, 1, 0, 0, 1, 1, 0, 0, 1]) = some (cd [1, 1, 1, 0, 1, 0, 0, 1, 1, 0, 0, 1, 0], cd [1, 1, 1, 0, 1, 0, 0, 1, 1, 0, 0, 1, 1]) := by kernel_rfl
theorem o9 : blockOf (cd [1, 1, 1, 0, 1, 0, 0, 1, 1, 0, 0, 1, 1]) = some (2, cd [1, 1, 1, 0, 1, 0, 0, 1, 1, 0, 0, 1, 1, 0]) := by kernel_rfl
theorem o10 : loopOf (cd [1, 1, 1, 0, 1, 0, 0, 1, 1, 0, 0, 1, 1, 0]) = some (cd [1, 1, 1, 0, 1, 0, 0, 1, 1, 0, 0, 1, 1, 0, 0]) := by kernel_rfl
def crcLL (tab : T Nat) (r : Nat) : List (List Nat) → Nat
  | [] => r
  | s :: l => crcLL tab (crcL tab r s) l
theorem outer {K : Hook} (hK : HookOk Tryz.prog K) {kd : CallKind} {cs0 : List AFrame} {k : List AItem} {h : H} {B n Bp o c N : Nat} {cap : Cap} {cs csP : T AV} {esz eszP : EK} {ro roP : Bool} {tab : T Nat}
    (hB : h.t.get B = some (.cells n cs esz ro)) (hcs : ∀ j, j < 256 → ∃ z, tab.get j = some z ∧ cs.get j = some (.int .u32 (.ofNat z))) (hP : h.t.get Bp = some (.cells c csP eszP roP)) (hN : N < 4611686018427387904) :
    ∀ (ps : List (List Nat)) (i r : Nat) (tm : T AV), i + ps.length = N → (∀ j s, ps[j]? = some s → csP.get (o + (i + j)) = some (.str s) ∧ s.length < 4611686018427387904) →
    tm.get 3 = some (.ptr B 0) → tm.get 4 = some (.int .u32 (.ofNat r)) → tm.get 9 = some (.slice Bp o N cap) → tm.get 10 = some (.int .i64 (.ofNat N)) → tm.get 11 = some (.int .i64 (.ofNat i)) →
    ∃ tm', AX.Reach Tryz.prog (stR 31 35 tm (.code (cd [1, 1, 1, 0, 1, 0, 0]) :: .inLoop (cd [1, 1, 1, 0, 1, 0, 0]) :: .inBlock 0 :: k) kd cs0 h) (stR 31 35 tm' k kd cs0 h) ∧ tm'.get 4 = some (.int .u32 (.ofNat (crcLL tab r ps)))
  | [], i, r, tm, hd, hps, h3, h4, h9, h10, h11 => by
    have hb : Nat.blt i N = false := by rw [← Bool.not_eq_true, Nat.blt_eq]; simp at hd; omega
    have e4 := ex4 (K := K) (h := h) h11 h10
    rw [hb] at e4
    refine ⟨_, ((reach_seq hK o0).trans ((reach_reg hK c4 e4).trans ((reach_seq hK o1).trans ((reach_condF hK o2 ?_).trans (reach_exit hK o4 (by simp (decide := true) only [aExitTo])))))), ?_⟩
    · simp (decide := true) only [evalA, T.get_set, if_true]
    · simp (decide := true) only [T.get_set, if_false, h4, crcLL]
  | s :: ps, i, r, tm, hd, hps, h3, h4, h9, h10, h11 => by
    simp only [List.length_cons] at hd
    have hb : Nat.blt i N = true := by rw [Nat.blt_eq]; omega
    have e4 := ex4 (K := K) (h := h) h11 h10
    rw [hb] at e4
    obtain ⟨hs0, hsl⟩ := hps 0 s rfl
    have e5 := ex5 (K := K) (tm := tm.set 12 (some (.bool true))) (h := h) (B := Bp) (o := o) (n := N) (cap := cap) (i := i) (s := s) (by simp (decide := true) only [T.get_set, if_false, h9]) (by simp (decide := true) only [T.get_set, if_false, h11]) (by omega) hP hs0
    have e6 := ex6 (K := K) (h := h) (s := s) (tm := (((tm.set 12 (some (.bool true))).set 13 (some (.ptr Bp (o + i)))).set 14 (some (.str s))).set 6 (some (.str s))) (by simp (decide := true) only [T.get_set, if_true])
    obtain ⟨tm1, hR1, hc1, hp1⟩ := inner hK (kd := kd) (cs0 := cs0) (k := .inBlock 1 :: .code (cd [1, 1, 1, 0, 1, 0, 0, 1, 1, 1]) :: .inLoop (cd [1, 1, 1, 0, 1, 0, 0]) :: .inBlock 0 :: k) (s := s) hsl hB hcs s 0 r
      (((((((tm.set 12 (some (.bool true))).set 13 (some (.ptr Bp (o + i)))).set 14 (some (.str s))).set 6 (some (.str s))).set 15 (some (.str s))).set 16 (some (.int .i64 (.ofNat s.length)))).set 17 (some (.int .i64 (.ofNat 0)))) rfl (Nat.zero_le _)
      (by simp (decide := true) only [T.get_set, if_false, h3]) (by simp (decide := true) only [T.get_set, if_false, h4]) (by simp (decide := true) only [T.get_set, if_true, if_false]) (by simp (decide := true) only [T.get_set, if_true, if_false]) (by simp (decide := true) only [T.get_set, if_true])
    have g11 : tm1.get 11 = some (.int .i64 (.ofNat i)) := by rw [hp1 11 (by decide) (by decide) (by decide)]; simp (decide := true) only [T.get_set, if_false, h11]
    have e11 := ex11 (K := K) (h := h) (i := i) (by omega) g11
    obtain ⟨tm', hR, hc⟩ := outer hK (kd := kd) (cs0 := cs0) (k := k) (cap := cap) hB hcs hP hN ps (i + 1) (crcL tab r s) ((tm1.set 32 (some (.int .i64 (.ofNat (i + 1))))).set 11 (some (.int .i64 (.ofNat (i + 1))))) (by omega)
      (fun j s hj => by have := hps (j + 1) s (by simpa using hj); rwa [show o + (i + 1 + j) = o + (i + (j + 1)) by omega])
      (by simp (decide := true) only [T.get_set, if_false]; rw [hp1 3 (by decide) (by decide) (by decide)]; simp (decide := true) only [T.get_set, if_false, h3])
      (by simp (decide := true) only [T.get_set, if_false]; exact hc1)
      (by simp (decide := true) only [T.get_set, if_false]; rw [hp1 9 (by decide) (by decide) (by decide)]; simp (decide := true) only [T.get_set, if_false, h9])
      (by simp (decide := true) only [T.get_set, if_false]; rw [hp1 10 (by decide) (by decide) (by decide)]; simp (decide := true) only [T.get_set, if_false, h10])
      (by simp (decide := true) only [T.get_set, if_true])
    refine ⟨tm', ?_, hc⟩
    refine (reach_seq hK o0).trans ((reach_reg hK c4 e4).trans ((reach_seq hK o1).trans ((reach_condT hK o2 ?_).trans ((reach_skip hK o3).trans ((reach_seq hK o5).trans ((reach_block hK o6).trans
      ((reach_seq hK o7).trans ((reach_reg hK c5 e5).trans ((reach_seq hK o8).trans ((reach_reg hK c6 e6).trans ((reach_block hK o9).trans ((reach_loop hK o10).trans (hR1.trans
        ((reach_inBlock hK).trans ((reach_reg hK c11 e11).trans ((reach_inLoop hK).trans hR))))))))))))))))
    simp (decide := true) only [evalA, T.get_set, if_true]
end
end Go.Proofs.YtakgpgamcmemgaaGreat.Crc
namespace Go.Proofs.YtakgpgamcmemgaaGreat.Crc
open Go.AX Go.RowKit
noncomputable section
def L0 : List (Option Tmp × Op) := [(some 2, .assign (.const (.int .u32 0)))]
def L1 : List (Option Tmp × Op) := [(some 8, .call ⟨.value (.func 84), #[], #[]⟩), (some 3, .alloc 143), (none, .store 143 (.tmp 3) (.tmp 8))]
def L2 : List (Option Tmp × Op) := [(some 4, .assign (.const (.int .u32 4294967295)))]
def L3 : List (Option Tmp × Op) := [(some 9, .move (.tmp 0)), (some 10, .call ⟨.builtin .len, #[.tmp 9], #[75]⟩), (some 11, .move (.const (.int .i64 0)))]
def L12 : List (Option Tmp × Op) := [(some 33, .move (.tmp 4)), (some 34, .unOp .xor 39 (.tmp 33)), (some 2, .assign (.tmp 34))]
theorem c0 : opsL (cd [0]) = some L0 := by kernel_rfl
theorem c1 : opsL (cd [1, 0]) = some L1 := by kernel_rfl
theorem c2 : opsL (cd [1, 1, 0]) = some L2 := by kernel_rfl
theorem c3 : opsL (cd [1, 1, 1, 0, 0]) = some L3 := by kernel_rfl
theorem c12 : opsL (cd [1, 1, 1, 1, 0]) = some L12 := by kernel_rfl
theorem b0 : seqOf (cd []) = some (cd [0], cd [1]) := by kernel_rfl
theorem b1 : seqOf (cd [1]) = some (cd [1, 0], cd [1, 1]) := by kernel_rfl
theorem b2 : seqOf (cd [1, 1]) = some (cd [1, 1, 0], cd [1, 1, 1]) := by kernel_rfl
theorem b3 : seqOf (cd [1, 1, 1]) = some (cd [1, 1, 1, 0], cd [1, 1, 1, 1]) := by kernel_rfl
theorem b4 : seqOf (cd [1, 1, 1, 0]) = some (cd [1, 1, 1, 0, 0], cd [1, 1, 1, 0, 1]) := by kernel_rfl
theorem b5 : blockOf (cd [1, 1, 1, 0, 1]) = some (0, cd [1, 1, 1, 0, 1, 0]) := by kernel_rfl
theorem b6 : loopOf (cd [1, 1, 1, 0, 1, 0]) = some (cd [1, 1, 1, 0, 1, 0, 0]) := by kernel_rfl
theorem b7 : seqOf (cd [1, 1, 1, 1]) = some (cd [1, 1, 1, 1, 0], cd [1, 1, 1, 1, 1]) := by kernel_rfl
theorem b8 : isRet (cd [1, 1, 1, 1, 1]) = true := by kernel_rfl
def cellsAt (vals : List AV) : Option (T AV) :=
  match zeroA Tryz.prog 143 with
  | some z => match Nat.beq vals.length (Tryz.prog.cellsOf 143) && Nat.beq z.cells.length 256 with
    | true => H.putRow (T.ofRow z.cells) 0 vals
    | false => none
  | none => none
def agree (tab : T Nat) (cs : T AV) : Nat → Bool
  | 0 => true
  | n + 1 => match tab.get n, cs.get n with
    | some z, some (.int .u32 (.ofNat y)) => match Nat.beq z y with
      | true => agree tab cs n
      | false => false
    | _, _ => false
def chk (vals : List AV) (tab : T Nat) : Bool :=
  match cellsAt vals with
  | some cs => agree tab cs 256
  | none => false
theorem agree_get {tab : T Nat} {cs : T AV} : ∀ {n : Nat}, agree tab cs n = true → ∀ j, j < n → ∃ z, tab.get j = some z ∧ cs.get j = some (.int .u32 (.ofNat z))
  | 0, _, j, hj => by omega
  | n + 1, h, j, hj => by
    simp only [agree] at h
    split at h
    · rename_i z y h1 h2
      split at h
      · rename_i e
        have e := Nat.eq_of_beq_eq_true e; subst e
        by_cases hjn : j = n
        · subst hjn; exact ⟨_, h1, h2⟩
        · exact agree_get h j (by omega)
      · cases h
    · cases h
variable {K : Hook} {vals : List AV} {tab : T Nat}
theorem en84 : enterOk Tryz.prog 84 = true := by kernel_rfl
theorem a143 : aggT Tryz.prog 143 = true := by kernel_rfl
theorem okT143 : okT Tryz.prog 143 = true := by simp only [okT, Tryz.underlying143]; rfl
theorem ex1 (hcall : ∀ h, K.call 84 [] h = some (.agg vals, h)) {cs' : T AV} (hcs : cellsAt vals = some cs') (tm : T AV) (h : H) :
    ∃ n esz t, execO Tryz.prog K 35 tm h L1 = some ((tm.set 8 (some (.agg vals))).set 3 (some (.ptr h.nx 0)), ⟨t, h.nx + 1, h.g⟩) ∧ t.get h.nx = some (.cells n cs' esz false) ∧ ∀ b, b ≠ h.nx → t.get b = h.t.get b := by
  unfold cellsAt at hcs
  split at hcs
  · rename_i z hz
    split at hcs
    · rename_i hl
      simp only [Bool.and_eq_true] at hl
      have hv : (AV.agg vals).cells = vals := rfl
      refine ⟨lenL z.cells, ⟨0, 144⟩, (h.t.set h.nx (some (.cells (lenL z.cells) (T.ofRow z.cells) ⟨0, 144⟩ false))).set h.nx (some (.cells (lenL z.cells) cs' ⟨0, 144⟩ false)), ?_, ?_, ?_⟩
      · simp (decide := true) only [execO, stepO, execA, L1, evalA, evalsA, callV, en84, List.append_nil, hcall, putT_lt, hz, H.newCells, H.alloc, T.get_set, if_true, if_false, okT143, storeV, hv, hl.1, H.put, hcs, optH, putT_none]
      · simp only [T.get_set, if_true]
      · intro b hb; simp only [T.get_set, hb, if_false]
    · cases hcs
  · cases hcs
theorem ex0 (tm : T AV) (h : H) : execO Tryz.prog K 35 tm h L0 = some (tm.set 2 (some (.int .u32 0)), h) := by
  simp (decide := true) only [execO, stepO, execA, L0, evalA, show ofVal (.int .u32 0) = some (.int .u32 0) from rfl, optV, putT_lt]
theorem ex2 (tm : T AV) (h : H) : execO Tryz.prog K 35 tm h L2 = some (tm.set 4 (some (.int .u32 (.ofNat 4294967295))), h) := by
  simp (decide := true) only [execO, stepO, execA, L2, evalA, show ofVal (.int .u32 4294967295) = some (.int .u32 (.ofNat 4294967295)) from rfl, optV, putT_lt]
theorem ex3 {B o n : Nat} {cap : Cap} {tm : T AV} {h : H} (h0 : tm.get 0 = some (.slice B o n cap)) :
    execO Tryz.prog K 35 tm h L3 = some (((tm.set 9 (some (.slice B o n cap))).set 10 (some (.int .i64 (.ofNat n)))).set 11 (some (.int .i64 (.ofNat 0))), h) := by
  simp (decide := true) only [execO, stepO, execA, L3, evalA, evalsA, h0, optV, putT_lt, T.get_set, if_true, builtinA, lenA, Tryz.underlying75, show ofVal (.int .i64 0) = some (.int .i64 (.ofNat 0)) from rfl]
def crcEnd (r : Nat) : Nat := Nat.mod (Nat.xor 4294967295 (Nat.mod r 4294967296)) 4294967296
theorem ex12 {r : Nat} {tm : T AV} {h : H} (h4 : tm.get 4 = some (.int .u32 (.ofNat r))) :
    execO Tryz.prog K 35 tm h L12 = some (((tm.set 33 (some (.int .u32 (.ofNat r)))).set 34 (some (.int .u32 (.ofNat (crcEnd r))))).set 2 (some (.int .u32 (.ofNat (crcEnd r)))), h) := by
  simp (decide := true) only [execO, stepO, execA, L12, evalA, h4, optV, putT_lt, T.get_set, if_true, unA, intB, forceInt_eq, wrapF, low, allBits, modF, emod_nat, toNat_nat, emod32, show Int.toNat (Int.emod 4294967295 (Int.ofNat 4294967296)) = 4294967295 from rfl]
  rfl
def strsOf : List AV → Option (List (List Nat))
  | [] => some []
  | .str s :: l => match Nat.ble (lenL s) 4194304 with
    | true => match strsOf l with
      | some r => some (s :: r)
      | none => none
    | false => none
  | _ => none
theorem strsOf_get : ∀ {l : List AV} {ps : List (List Nat)}, strsOf l = some ps → l.length = ps.length ∧ ∀ (j : Nat) (s : List Nat), ps[j]? = some s → l[j]? = some (AV.str s) ∧ s.length < 4611686018427387904
  | [], ps, h => by cases h; exact ⟨rfl, fun j s hj => by simp at hj⟩
  | x :: l, ps, h => by
    unfold strsOf at h
    split at h
    · cases ‹_ :: _ = _›
    · rename_i s l' e
      cases e
      split at h
      · rename_i hl
        split at h
        · rename_i r hr
          cases h
          obtain ⟨e1, e2⟩ := strsOf_get hr
          refine ⟨by simp [e1], fun j s hj => ?_⟩
          cases j with
          | zero =>
            simp only [List.getElem?_cons_zero, Option.some.injEq] at hj ⊢; subst hj
            have := Nat.le_of_ble_eq_true hl
            rw [lenL_eq] at this
            exact ⟨rfl, by omega⟩
          | succ j => simpa using e2 j s (by simpa using hj)
        · cases h
      · cases h
    · cases h
theorem loadCells_get {cs : T AV} : ∀ {k o : Nat} {l : List AV}, H.loadCells cs o k = some l → l.length = k ∧ ∀ j x, l[j]? = some x → cs.get (o + j) = some x
  | 0, o, l, h => by cases h; exact ⟨rfl, fun j x hj => by simp at hj⟩
  | k + 1, o, l, h => by
    simp only [H.loadCells] at h
    split at h
    · cases h
    · rename_i v hv
      split at h
      · cases h
      · rename_i l' hl
        cases h
        obtain ⟨e1, e2⟩ := loadCells_get hl
        refine ⟨by simp [e1], fun j x hj => ?_⟩
        cases j with
        | zero => simp at hj; subst hj; exact hv
        | succ j => rw [show o + (j + 1) = o + 1 + j by omega]; exact e2 j x (by simpa using hj)
def crcAt (tab : T Nat) (cs : T AV) (o n : Nat) : Option Nat :=
  match H.loadCells cs o n with
  | some l => match strsOf l with
    | some ps => some (crcEnd (crcLL tab 4294967295 ps))
    | none => none
  | none => none
def crcArg (tab : T Nat) (b o n : Nat) (h : H) : Option (AV × H) :=
  match h.t.get b with
  | some (.cells _ cs _ _) => match small n && Nat.blt b h.nx with
    | true => match crcAt tab cs o n with
      | some r => some (.int .u32 (.ofNat r), h)
      | none => none
    | false => none
  | _ => none
def crcCall (tab : T Nat) (f : FuncId) (args : List AV) (h : H) : Option (AV × H) :=
  match Nat.beq f 31 with
  | true => match args with
    | [.slice b o n _] => crcArg tab b o n h
    | _ => none
  | false => none
def crcHook (tab : T Nat) : Hook := ⟨crcCall tab, fun _ _ _ => none⟩
theorem body31 : Tryz.f31.body = some (cd []) := by kernel_rfl
theorem res31 : Tryz.f31.results = #[.tmp 2] := by kernel_rfl
theorem nt31 : Tryz.f31.ntmps = 35 := by kernel_rfl
theorem run {K : Hook} (hK : HookOk Tryz.prog K) (hcall : ∀ h, K.call 84 [] h = some (.agg vals, h)) (hchk : chk vals tab = true) {b o n c : Nat} {cap : Cap} {cs : T AV} {esz : EK} {ro : Bool} {h : H} {r : Nat}
    (hb : h.t.get b = some (.cells c cs esz ro)) (hbn : b < h.nx) (hn : n < 4611686018427387904) (hr : crcAt tab cs o n = some r) :
    ∃ fr0 s h', enterA Tryz.prog 31 [.slice b o n cap] .normal = some fr0 ∧ AX.Reach Tryz.prog { fr := fr0, cs := [], h := h } s ∧ runA Tryz.prog K 31 3 s = some (.int .u32 (.ofNat r), h') := by
  unfold chk at hchk
  split at hchk
  · rename_i cs' hcs'
    unfold crcAt at hr
    split at hr
    · rename_i l hl
      split at hr
      · rename_i ps hps
        cases hr
        obtain ⟨q1, q2⟩ := loadCells_get hl
        obtain ⟨q3, q4⟩ := strsOf_get hps
        have e0 := ex0 (K := K) (T.fill .e 0 [.slice b o n cap]) h
        obtain ⟨n1, esz1, t1, e1, g1, g2⟩ := ex1 hcall hcs' ((T.fill .e 0 [.slice b o n cap]).set 2 (some (.int .u32 0))) h
        have e2 := ex2 (K := K) ((((T.fill .e 0 [.slice b o n cap]).set 2 (some (.int .u32 0))).set 8 (some (.agg vals))).set 3 (some (.ptr h.nx 0))) ⟨t1, h.nx + 1, h.g⟩
        have e3 := ex3 (K := K) (h := ⟨t1, h.nx + 1, h.g⟩) (tm := (((((T.fill .e 0 [.slice b o n cap]).set 2 (some (.int .u32 0))).set 8 (some (.agg vals))).set 3 (some (.ptr h.nx 0))).set 4 (some (.int .u32 (.ofNat 4294967295))))) (B := b) (o := o) (n := n) (cap := cap)
          (by simp (decide := true) only [T.get_set, if_false, T.get_fill0]; rfl)
        obtain ⟨tm', hR, h4⟩ := outer hK (kd := .normal) (cs0 := []) (k := [.code (cd [1, 1, 1, 1])]) (h := ⟨t1, h.nx + 1, h.g⟩) (B := h.nx) (n := n1) (Bp := b) (o := o) (c := c) (N := n) (cap := cap) (cs := cs') (csP := cs) (tab := tab)
          g1 (agree_get hchk) ((g2 b (by omega)).trans hb) hn ps 0 4294967295
          ((((((((T.fill .e 0 [.slice b o n cap]).set 2 (some (.int .u32 0))).set 8 (some (.agg vals))).set 3 (some (.ptr h.nx 0))).set 4 (some (.int .u32 (.ofNat 4294967295)))).set 9 (some (.slice b o n cap))).set 10 (some (.int .i64 (.ofNat n)))).set 11 (some (.int .i64 (.ofNat 0))))
          (by omega) (fun j s hj => by obtain ⟨x, y⟩ := q4 j s hj; rw [show o + (0 + j) = o + j by omega]; exact ⟨q2 j _ x, y⟩)
          (by simp (decide := true) only [T.get_set, if_true, if_false]) (by simp (decide := true) only [T.get_set, if_true, if_false]) (by simp (decide := true) only [T.get_set, if_true, if_false])
          (by simp (decide := true) only [T.get_set, if_true, if_false]) (by simp (decide := true) only [T.get_set, if_true])
        have e12 := ex12 (K := K) (h := ⟨t1, h.nx + 1, h.g⟩) h4
        refine ⟨_, _, _, ?_, (reach_seq hK b0).trans ((reach_reg hK c0 e0).trans ((reach_seq hK b1).trans ((reach_reg hK c1 e1).trans ((reach_seq hK b2).trans ((reach_reg hK c2 e2).trans ((reach_seq hK b3).trans
          ((reach_seq hK b4).trans ((reach_reg hK c3 e3).trans ((reach_block hK b5).trans ((reach_loop hK b6).trans (hR.trans ((reach_seq hK b7).trans (reach_reg hK c12 e12))))))))))))), ret_run b8 rfl Tryz.func31 ?_⟩
        · simp only [enterA, Tryz.func31, body31, nt31]; rfl
        · simp (decide := true) only [resA, res31, evalRes, T.get_set, if_true, Option.getD_some]
      · cases hr
    · cases hr
  · cases hchk
theorem HR.frozen {N : NN} {φ : Phi} {h : H} {w : World} (hr : HR N φ h w) {b n : Nat} {cs : T AV} {esz : EK} {ro : Bool} {L : AX.Loc} (hb : h.t.get b = some (.cells n cs esz ro)) (hL : φ b = some L) :
    HR ⟨w.heap.size, fun _ => none⟩ φ ⟨(T.e : T AObj).set b (some (.cells n cs esz true)), h.nx, h.g⟩ w := by
  have hg : ∀ b' o, ((T.e : T AObj).set b (some (.cells n cs esz true))).get b' = some o → b' = b ∧ o = .cells n cs esz true := by
    intro b' o h'
    rw [T.get_set] at h'
    split at h'
    · rename_i e; cases h'; exact ⟨e, rfl⟩
    · cases h'
  obtain ⟨c, t, frz, h1, h2, h3, h4, h5, h6, h7, h8⟩ := hr.get hb hL
  refine ⟨fun b' o hbo _ => ?_, fun b1 o1 b2 o2 L1 L2 hb1 hb2 _ _ _ => ?_, hr.lt, fun b' hb' => absurd rfl hb', hr.glob⟩
  · obtain ⟨rfl, rfl⟩ := hg b' o hbo
    exact ⟨L, hL, c, t, frz, h1, h2, h3, fun e => (by cases e), h5, h6, h7, fun _ e => (by cases e)⟩
  · rw [(hg b1 o1 hb1).1, (hg b2 o2 hb2).1]
theorem crcHook_ok {K : Hook} (hK : HookOk Tryz.prog K) (hcall : ∀ h, K.call 84 [] h = some (.agg vals, h)) (hchk : chk vals tab = true) : HookOk Tryz.prog (crcHook tab) := by
  refine ⟨?_, fun _ _ _ _ _ h => (by cases h)⟩
  intro f args h v h' hk N φ w cargs hr hN ha
  unfold crcHook crcCall at hk
  simp only at hk
  split at hk
  · rename_i hf
    have hf := Nat.eq_of_beq_eq_true hf; subst hf
    split at hk
    · rename_i b o n cap
      unfold crcArg at hk
      split at hk
      · rename_i c cs esz ro hb
        split at hk
        · rename_i hn
          split at hk
          · rename_i r hr0
            cases hk
            simp only [Bool.and_eq_true, Nat.blt_eq] at hn
            obtain ⟨hn1, hn2⟩ := hn
            have hn1 := small_le hn1
            have hL : ∃ L : AX.Loc, φ b = some L := by
              obtain ⟨c0, cs0, _, h1, _⟩ := All2.cons_left.1 ha
              cases cap with
              | exact c => rw [VR_sliceEx] at h1; exact ⟨_, h1.choose_spec.1⟩
              | opn i => rw [VR_sliceOp] at h1; exact ⟨_, h1.choose_spec.1⟩
            obtain ⟨L, hL⟩ := hL
            have hfr := HR.frozen hr hb hL
            obtain ⟨fr0, s, h2, p1, p2, p3⟩ := run hK hcall hchk (h := ⟨(T.e : T AObj).set b (some (.cells c cs esz true)), h.nx, h.g⟩) (b := b) (cap := cap) (c := c) (cs := cs) (esz := esz) (ro := true) (r := r) (by simp only [T.get_set, if_true]) hn2 (by omega) hr0
            refine (calls_of_reach hK p1 p2 p3 hfr (Nat.le_refl _) ha).mono ?_
            rintro e w' ⟨N', φ', cv, _, rfl, _, hv, _, hbl⟩
            rw [VR_int] at hv; subst hv
            exact ⟨φ, _, rfl, φ.le_refl, VR_int.2 rfl, hr.below hbl, Below.mono hbl hN⟩
          · cases hk
        · cases hk
      · cases hk
    · cases hk
  · cases hk
end
end Go.Proofs.YtakgpgamcmemgaaGreat.Crc


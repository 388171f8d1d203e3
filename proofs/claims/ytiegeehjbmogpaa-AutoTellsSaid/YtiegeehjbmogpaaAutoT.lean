/-
  'AutoTells' returns true, whatever the input; each argument reads as it did. No condition.
-/
import Derived.Test.YtiegeehjbmogpaaRows
import Derived.Test.YtiegeehjbmogpaaAxI
import Derived.Test.YtiegeehjbmogpaaAutoF
set_option linter.unusedSimpArgs false
set_option linter.unusedVariables false
namespace Go.Proofs.Ytiegeehjbmogpaa.autoTells
open Go.ChangeShapes Go.WideShapes Go.ChangeAt Go.RowKit

theorem own : ownKnob Try.prog.godebug = none := by kernel_rfl

theorem laidOut : laidOutB Try.prog = true := by kernel_rfl
theorem readable : ∀ t, t ∈ [3, 22, 23] → Try.prog.readableRec t = true ∧ t < Try.prog.types.size := by
  intro t ht
  simp only [List.mem_cons, List.mem_nil_iff, or_false] at ht
  rcases ht with rfl | rfl | rfl <;> exact ⟨by kernel_rfl, of_decide_eq_true (by kernel_rfl)⟩

theorem walk (M : World) (e : Int) (k : Nat) (vl : AX.AV) (l : List Nat) (cv : Value) (he : -9223372036854775808 ≤ e ∧ e ≤ 9223372036854775807) (hv : AX.VR (AX.absPhi M.heap.size) vl cv) (sl : AX.SliceAt (AX.absH M) vl l.length (W.u64s l))
    (hl : ∀ n, n ∈ l → n < 18446744073709551616) : Calls Try.prog 3 #[.int .i64 e, .int .u64 (.ofNat k), cv] M fun e w' => e = .returned (.bool true) ∧ Below M.heap.size M w' := by
  have hw : AX.codeW Try.prog 3 89 none (AX.bodyC Try.f3) [] (AX.T.fill .e 0 [.int .i64 e, .int .u64 (.ofNat k), vl]) (AX.absH M) (AX.retK Try.prog Try.f3 W.PostTrue) := by
    cases hb : W.badArg e k with
    | true => exact W.tellsBad _ e k vl hb
    | false =>
      unfold W.badArg at hb
      simp only [Bool.or_eq_false_iff, decide_eq_false_iff_not] at hb
      obtain ⟨⟨⟨h1, h2⟩, h3⟩, h4⟩ := hb
      obtain ⟨m, rfl⟩ : ∃ m : Nat, e = Int.ofNat m := ⟨e.toNat, (Int.toNat_of_nonneg (by omega)).symm⟩
      refine W.tellsGood _ m k vl l ?_ (by have : ¬ ((1000000 : Int) < (m : Int)) := h3; omega) (by omega) hl sl
      have e1 : decide ((0 : Int) < Int.ofNat m) = decide (0 < m) := by simp
      rw [e1] at h2
      by_cases q : 0 < m <;> by_cases r : 0 < k <;> simp [q, r] at h2 <;> omega
  refine (AX.calls_of_codeW (fn := Try.f3) (c := AX.bodyC Try.f3) Try.func3 rfl hw (AX.absH_rel M) (Nat.le_refl _) (cargs := #[.int .i64 e, .int .u64 (.ofNat k), cv]) ⟨by simp, by simp, hv, trivial⟩).mono ?_
  rintro e1 w' ⟨N', φ', cv', v, h', _, rfl, hq, _, hv', _, hb⟩
  have hq : v = .bool true := hq
  subst hq
  rw [AX.VR_bool] at hv'; subst hv'
  exact ⟨rfl, hb⟩

set_option maxRecDepth 100000 in
theorem lifted (os : Os) (started : os.Started) (H : Type) (enc : TypeId × Value → H) :
    ReturnsInHanded {} Try.checked os 3 .any (Rows.autoTellsSpec.pre6 enc Try.prog Try.f3 Rows.autoTellsRow.domain false) (Rows.autoTellsSpec.post enc Try.prog Try.f3 false true false false) := by
  refine returnsInHanded_of_change (C := Try.checked) own started (by kernel_rfl) Try.func3
    (ChangeSpec.witness6 (enc := enc) (C := Try.checked) false ⟨#[], #[.int .i64 0, .int .u64 0, .slice none 0 0], []⟩ 8 (by kernel_rfl) (by kernel_rfl) (by kernel_rfl) (by kernel_rfl)) ?_
  intro M base args ds gs before hval0 hW hcnd _
  have hW' := hW
  have hlt := hW.lt
  obtain ⟨p, q, hA0, hV, rfl, hfz, hnd⟩ := hW
  have hA : DataW.TrodAll enc Try.prog M 0 (fun _ => true) true Try.f3.params.toList args.toList ds p := hA0
  rw [Try.params3] at hA hval0
  have hA1 := hA
  obtain ⟨v0, vs0, d0, ds0, p0, q0, hargs, rfl, rfl, g0, r0⟩ := trodAll_cons hA
  obtain ⟨v1, vs1, d1, ds1, p1, q1, rfl, rfl, rfl, g1, r1⟩ := trodAll_cons r0
  obtain ⟨v2, vs2, d2, ds2, p2, q2, rfl, rfl, rfl, g2, r2⟩ := trodAll_cons r1
  obtain ⟨rfl, rfl, rfl⟩ := trodAll_nil r2
  obtain rfl : args = #[v0, v1, v2] := by cases args; simp_all
  obtain ⟨rfl, rfl⟩ := trodVars_none hV
  obtain ⟨e, rfl, _, _, w0⟩ := open_int W.u3 (hval0 0 3 v0 rfl rfl) g0
  obtain ⟨k0, rfl, _, _, w1⟩ := open_int W.u22 (hval0 1 22 v1 rfl rfl) g1
  obtain ⟨k, rfl, hk⟩ := AX.wf_nat (k := .u64) rfl w1
  obtain ⟨vl, l, hv, sl, hl, _⟩ := AX.nats_arg (k := .u64) rfl W.u23 W.u22 (by kernel_rfl) (hval0 2 23 v2 rfl rfl) g2
  simp only [List.append_nil] at hW' hlt
  refine (walk M e k vl l v2 (AX.wf_i64 w0) hv sl hl).mono fun e1 M' ⟨he, hb⟩ => ?_
  subst he
  exact ⟨_, rfl, _, [], _, [], _, [], hW', trodAll_cons_mk (shut_bool Try.underlying4 _) trodAll_mk0, AX.trodAll_below laidOut hb readable hA1 (fun p hp => hlt p (by simpa using hp)) _ (fun p hp => decide_eq_true (hlt p (by simpa using hp))), rfl, hb.frame _, fun h => by cases h⟩

theorem over : Rows.autoTellsRow.holds Try.pinned (OpenSpec.ofChange Rows.autoTellsSpec) :=
  OpenClaim.holds_of_wide 3 Try.f3 rfl rfl rfl rfl rfl rfl rfl ⟨rfl, rfl, rfl, rfl, rfl⟩ rfl rfl rfl rfl rfl (by kernel_rfl) Try.func3 (by kernel_rfl)
    (of_decide_eq_true (by kernel_rfl)) (by unfold Func.isWrapper; first | (rw [if_pos (by decide +kernel)]; kernel_rfl) | (rw [if_neg (by decide +kernel)]; exact ⟨rfl, rfl⟩))
    (fun os started H enc _ => lifted os started H enc)

theorem proved : Rows.AutoTellsSaid := over
#print axioms proved

end Go.Proofs.Ytiegeehjbmogpaa.autoTells


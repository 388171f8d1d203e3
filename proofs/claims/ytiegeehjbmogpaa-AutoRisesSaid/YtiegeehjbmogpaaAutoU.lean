/-
  'AutoRises' returns true, whatever the input; each argument reads as it did. No condition.
-/
import Derived.Test.YtiegeehjbmogpaaRows
import Derived.Test.YtiegeehjbmogpaaAxI
import Derived.Test.YtiegeehjbmogpaaAutoG
set_option linter.unusedSimpArgs false
set_option linter.unusedVariables false
namespace Go.Proofs.Ytiegeehjbmogpaa.autoRises
open Go.ChangeShapes Go.WideShapes Go.ChangeAt Go.RowKit

theorem own : ownKnob Try.prog.godebug = none := by kernel_rfl

theorem laidOut : laidOutB Try.prog = true := by kernel_rfl
theorem u5 : Try.prog.underlying 5 = some (.int .u8) := by kernel_rfl
theorem readable : ∀ t, t ∈ [5, 5, 35] → Try.prog.readableRec t = true ∧ t < Try.prog.types.size := by
  intro t ht
  simp only [List.mem_cons, List.mem_nil_iff, or_false] at ht
  rcases ht with rfl | rfl | rfl <;> exact ⟨by kernel_rfl, of_decide_eq_true (by kernel_rfl)⟩

theorem walk (M : World) (e k : Nat) (vl : AX.AV) (l : List Nat) (cv : Value) (he : e < 256) (hk : k < 256) (hv : AX.VR (AX.absPhi M.heap.size) vl cv) (sl : AX.SliceAt (AX.absH M) vl l.length (W.u8s l))
    (hl : ∀ n, n ∈ l → n < 256) : Calls Try.prog 4 #[.int .u8 (.ofNat e), .int .u8 (.ofNat k), cv] M fun e w' => e = .returned (.bool true) ∧ Below M.heap.size M w' := by
  have hw := W.rises _ e k vl l he hk hl sl
  refine (AX.calls_of_codeW (fn := Try.f4) (c := AX.bodyC Try.f4) Try.func4 rfl hw (AX.absH_rel M) (Nat.le_refl _) (cargs := #[.int .u8 (.ofNat e), .int .u8 (.ofNat k), cv]) ⟨by simp, by simp, hv, trivial⟩).mono ?_
  rintro e1 w' ⟨N', φ', cv', v, h', _, rfl, hq, _, hv', _, hb⟩
  have hq : v = .bool true := hq
  subst hq
  rw [AX.VR_bool] at hv'; subst hv'
  exact ⟨rfl, hb⟩

set_option maxRecDepth 100000 in
theorem lifted (os : Os) (started : os.Started) (H : Type) (enc : TypeId × Value → H) :
    ReturnsInHanded {} Try.checked os 4 .any (Rows.autoRisesSpec.pre6 enc Try.prog Try.f4 Rows.autoRisesRow.domain false) (Rows.autoRisesSpec.post enc Try.prog Try.f4 false true false false) := by
  refine returnsInHanded_of_change (C := Try.checked) own started (by kernel_rfl) Try.func4
    (ChangeSpec.witness6 (enc := enc) (C := Try.checked) false ⟨#[], #[.int .u8 0, .int .u8 0, .slice none 0 0], []⟩ 8 (by kernel_rfl) (by kernel_rfl) (by kernel_rfl) (by kernel_rfl)) ?_
  intro M base args ds gs before hval0 hW hcnd _
  have hW' := hW
  have hlt := hW.lt
  obtain ⟨p, q, hA0, hV, rfl, hfz, hnd⟩ := hW
  have hA : DataW.TrodAll enc Try.prog M 0 (fun _ => true) true Try.f4.params.toList args.toList ds p := hA0
  rw [Try.params4] at hA hval0
  have hA1 := hA
  obtain ⟨v0, vs0, d0, ds0, p0, q0, hargs, rfl, rfl, g0, r0⟩ := trodAll_cons hA
  obtain ⟨v1, vs1, d1, ds1, p1, q1, rfl, rfl, rfl, g1, r1⟩ := trodAll_cons r0
  obtain ⟨v2, vs2, d2, ds2, p2, q2, rfl, rfl, rfl, g2, r2⟩ := trodAll_cons r1
  obtain ⟨rfl, rfl, rfl⟩ := trodAll_nil r2
  obtain rfl : args = #[v0, v1, v2] := by cases args; simp_all
  obtain ⟨rfl, rfl⟩ := trodVars_none hV
  obtain ⟨e0, rfl, _, _, w0⟩ := open_int u5 (hval0 0 5 v0 rfl rfl) g0
  obtain ⟨k0, rfl, _, _, w1⟩ := open_int u5 (hval0 1 5 v1 rfl rfl) g1
  obtain ⟨e, rfl, he⟩ := AX.wf_nat (k := .u8) rfl w0
  obtain ⟨k, rfl, hk⟩ := AX.wf_nat (k := .u8) rfl w1
  obtain ⟨vl, l, hv, sl, hl, _⟩ := AX.nats_arg (k := .u8) rfl W.u35 u5 (by kernel_rfl) (hval0 2 35 v2 rfl rfl) g2
  simp only [List.append_nil] at hW' hlt
  refine (walk M e k vl l v2 he hk hv sl hl).mono fun e1 M' ⟨he, hb⟩ => ?_
  subst he
  exact ⟨_, rfl, _, [], _, [], _, [], hW', trodAll_cons_mk (shut_bool Try.underlying4 _) trodAll_mk0, AX.trodAll_below laidOut hb readable hA1 (fun p hp => hlt p (by simpa using hp)) _ (fun p hp => decide_eq_true (hlt p (by simpa using hp))), rfl, hb.frame _, fun h => by cases h⟩

theorem over : Rows.autoRisesRow.holds Try.pinned (OpenSpec.ofChange Rows.autoRisesSpec) :=
  OpenClaim.holds_of_wide 4 Try.f4 rfl rfl rfl rfl rfl rfl rfl ⟨rfl, rfl, rfl, rfl, rfl⟩ rfl rfl rfl rfl rfl (by kernel_rfl) Try.func4 (by kernel_rfl)
    (of_decide_eq_true (by kernel_rfl)) (by unfold Func.isWrapper; first | (rw [if_pos (by decide +kernel)]; kernel_rfl) | (rw [if_neg (by decide +kernel)]; exact ⟨rfl, rfl⟩))
    (fun os started H enc _ => lifted os started H enc)

theorem proved : Rows.AutoRisesSaid := over
#print axioms proved

end Go.Proofs.Ytiegeehjbmogpaa.autoRises


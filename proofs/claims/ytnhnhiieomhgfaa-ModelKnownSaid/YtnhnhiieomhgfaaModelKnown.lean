/-
  'ModelKnown' returns true, in every world. No condition.
-/
import Derived.Test.YtnhnhiieomhgfaaRows
import Derived.ProofKit
import Derived.OpenShut
import Derived.Test.YtnhnhiieomhgfaaSorted
import Derived.Test.YtnhnhiieomhgfaaTabE
namespace Go.Proofs.Ytnhnhiieomhgfaa.modelKnown
open Go.ChangeShapes Go.WideShapes Go.ChangeAt Go.RowKit

theorem own : ownKnob Try.prog.godebug = none := by kernel_rfl

noncomputable def hk : AX.Hook := AX.orHook sortedK (AX.knownHook 53 Tab.val)

theorem hk_ok : AX.HookOk Try.prog hk := AX.orHook_ok sortedK_ok (AX.knownHook_ok (by kernel_rfl) Tab.known)

set_option maxRecDepth 100000 in
theorem reckoned : AX.yes (AX.callA Try.prog hk 100000 3 [] ⟨.e, 0, 0⟩) = true := by kernel_rfl

theorem walk (w : World) : Calls Try.prog 3 #[] w fun e w' => e = .returned (.bool true) ∧ Below w.heap.size w w' := AX.calls_true hk_ok reckoned w

set_option maxRecDepth 100000 in
theorem lifted (os : Os) (started : os.Started) (H : Type) (enc : TypeId × Value → H) :
    ReturnsInHanded {} Try.checked os 3 .any (Rows.modelKnownSpec.pre6 enc Try.prog Try.f3 Rows.modelKnownRow.domain false) (Rows.modelKnownSpec.post enc Try.prog Try.f3 false true false false) := by
  refine returnsInHanded_of_change (C := Try.checked) own started (by kernel_rfl) Try.func3
    (ChangeSpec.witness6 (enc := enc) (C := Try.checked) false ⟨#[], #[], []⟩ 8 (by kernel_rfl) (by kernel_rfl) (by kernel_rfl) (by kernel_rfl)) ?_
  intro W base args ds gs before hval0 hW hcnd _
  have hW' := hW
  obtain ⟨p, q, hA0, hV, rfl, hfz, hnd⟩ := hW
  have hA : DataW.TrodAll enc Try.prog W 0 (fun _ => true) true Try.f3.params.toList args.toList ds p := hA0
  rw [Try.params3] at hA
  obtain ⟨rfl, rfl, rfl⟩ := trodAll_none hA
  obtain ⟨rfl, rfl⟩ := trodVars_none hV
  simp only [List.append_nil] at hW'
  refine (walk W).mono fun e W' ⟨he, hb⟩ => ?_
  subst he
  exact ⟨_, rfl, [], [], [], [], [], [], hW', trodAll_cons_mk (shut_bool Try.underlying4 _) trodAll_mk0, trodAll_mk0, rfl, hb.frame _, fun h => by cases h⟩

theorem over : Rows.modelKnownRow.holds Try.pinned (OpenSpec.ofChange Rows.modelKnownSpec) :=
  OpenClaim.holds_of_wide 3 Try.f3 rfl rfl rfl rfl rfl rfl rfl ⟨rfl, rfl, rfl, rfl, rfl⟩ rfl rfl rfl rfl rfl (by kernel_rfl) Try.func3 (by kernel_rfl)
    (of_decide_eq_true (by kernel_rfl)) (by unfold Func.isWrapper; first | (rw [if_pos (by decide +kernel)]; kernel_rfl) | (rw [if_neg (by decide +kernel)]; exact ⟨rfl, rfl⟩))
    (fun os started H enc _ => lifted os started H enc)

theorem proved : Rows.ModelKnownSaid := over
#print axioms proved
end Go.Proofs.Ytnhnhiieomhgfaa.modelKnown

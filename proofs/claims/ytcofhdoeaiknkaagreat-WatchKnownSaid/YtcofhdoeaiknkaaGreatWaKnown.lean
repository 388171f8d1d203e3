/-
  'WatchKnown' returns true, in every world. No condition.
-/
import Derived.Test.YtcofhdoeaiknkaaGreatRows
import Derived.ProofKit
import Derived.OpenShut
import Derived.Test.YtcofhdoeaiknkaaGreatWaE
namespace Go.Proofs.YtcofhdoeaiknkaaGreat.watchKnown
open Go.ChangeShapes Go.WideShapes Go.ChangeAt Go.RowKit

theorem joined_of {P : Program} {f : FuncId} {fn : Func} {s : ChangeSpec} {c : OpenClaim} (h0 : (c.wf (OpenSpec.ofChange s)) = true) (h1 : (laidOutB P) = true) (h2 : (mapsRowed P) = true) (h3 : (fn.params.all (P.readableRec ·)) = true) (h4 : (namedTie P c.named s.vars) = true) (h5 : ((c.stops == [])) = true) (h6 : ((P.stops == [])) = true) (h7 : ((c.knobs == [])) = true) (h8 : ((P.stopKnobs == [])) = true) (h9 : ((c.inPlace == P.inPlace f)) = true) (h10 : ((c.unfollowed == P.unfollowed f)) = true) (h11 : ((c.recurses == P.recurses f)) = true) (h12 : ((c.named == P.varsNamed f)) = true) (h13 : ((c.maps == (fn.params.toList ++ s.plain.varTypes P).any (P.mapsRec ·))) = true) (h14 : ((c.ifaces == (fn.params.toList ++ s.plain.varTypes P).any (P.ifacesRec ·))) = true) (h15 : ((c.mapsOut == P.mapsAmong fn.resultTypes.toList)) = true) (h16 : ((c.loops == (fn.params.toList ++ s.plain.varTypes P).any (P.loopsFrom ·))) = true) (h17 : ((c.wideKeys == (fn.params.toList ++ s.plain.varTypes P ++ fn.resultTypes.toList).any (P.wideKeysFrom ·))) = true) (h18 : (s.vars.all (P.varReadable ·)) = true) (h19 : (fn.resultTypes.all (fun t => P.readableRec t && decide (t < P.types.size))) = true) (h20 : ((c.ifacesOut == fn.resultTypes.toList.any (P.ifacesRec ·))) = true) (h21 : ((c.loopsOut == fn.resultTypes.toList.any (P.loopsFrom ·))) = true) (h22 : ((c.plainKeys == P.plainKeys)) = true) (h23 : (c.shortTexts.isNone) = true) (h24 : (P.stopsHeard) = true) (h25 : (P.mayEnter) = true) (h26 : ((c.lifted == P.liftsFinal)) = true) (h27 : ((P.make == some c.make)) = true) (h28 : ((c.kinds == (if c.domain.isEmpty then [] else fn.params.toList.map fun t => match P.underlying t with | some (.int k) => some k | _ => none))) = true) (h29 : ((c.pinned == c.pinnedBy)) = true) (h30 : ((c.veiled == (fn.params.toList ++ s.plain.varTypes P ++ fn.resultTypes.toList).any (P.veiledRec ·))) = true) (h31 : (c.veiledFits P fn.params.toList (fn.params.toList ++ s.plain.varTypes P ++ fn.resultTypes.toList)) = true) : joinedFacts P f fn s c = true := by
  unfold joinedFacts
  simp only [Bool.and_eq_true]
  exact ⟨⟨⟨⟨⟨⟨⟨⟨⟨⟨⟨⟨⟨⟨⟨⟨⟨⟨⟨⟨⟨⟨⟨⟨⟨⟨⟨⟨⟨⟨⟨h0, h1⟩, h2⟩, h3⟩, h4⟩, h5⟩, h6⟩, h7⟩, h8⟩, h9⟩, h10⟩, h11⟩, h12⟩, h13⟩, h14⟩, h15⟩, h16⟩, h17⟩, h18⟩, h19⟩, h20⟩, h21⟩, h22⟩, h23⟩, h24⟩, h25⟩, h26⟩, h27⟩, h28⟩, h29⟩, h30⟩, h31⟩
theorem j0 : (fun (_ : Program) (_ : FuncId) (_ : Func) (s : ChangeSpec) (c : OpenClaim) => c.wf (OpenSpec.ofChange s)) Tryz.checked.prog 7 Tryz.f7 Rows.watchKnownSpec Rows.watchKnownRow = true := by kernel_rfl
theorem j1 : (fun (P : Program) (_ : FuncId) (_ : Func) (_ : ChangeSpec) (_ : OpenClaim) => laidOutB P) Tryz.checked.prog 7 Tryz.f7 Rows.watchKnownSpec Rows.watchKnownRow = true := by kernel_rfl
theorem j2 : (fun (P : Program) (_ : FuncId) (_ : Func) (_ : ChangeSpec) (_ : OpenClaim) => mapsRowed P) Tryz.checked.prog 7 Tryz.f7 Rows.watchKnownSpec Rows.watchKnownRow = true := by kernel_rfl
theorem j3 : (fun (P : Program) (_ : FuncId) (fn : Func) (_ : ChangeSpec) (_ : OpenClaim) => fn.params.all (P.readableRec ·)) Tryz.checked.prog 7 Tryz.f7 Rows.watchKnownSpec Rows.watchKnownRow = true := by kernel_rfl
theorem j4 : (fun (P : Program) (_ : FuncId) (_ : Func) (s : ChangeSpec) (c : OpenClaim) => namedTie P c.named s.vars) Tryz.checked.prog 7 Tryz.f7 Rows.watchKnownSpec Rows.watchKnownRow = true := by kernel_rfl
theorem j5 : (fun (_ : Program) (_ : FuncId) (_ : Func) (_ : ChangeSpec) (c : OpenClaim) => (c.stops == [])) Tryz.checked.prog 7 Tryz.f7 Rows.watchKnownSpec Rows.watchKnownRow = true := by kernel_rfl
theorem j6 : (fun (P : Program) (_ : FuncId) (_ : Func) (_ : ChangeSpec) (_ : OpenClaim) => (P.stops == [])) Tryz.checked.prog 7 Tryz.f7 Rows.watchKnownSpec Rows.watchKnownRow = true := by kernel_rfl
theorem j7 : (fun (_ : Program) (_ : FuncId) (_ : Func) (_ : ChangeSpec) (c : OpenClaim) => (c.knobs == [])) Tryz.checked.prog 7 Tryz.f7 Rows.watchKnownSpec Rows.watchKnownRow = true := by kernel_rfl
theorem j8 : (fun (P : Program) (_ : FuncId) (_ : Func) (_ : ChangeSpec) (_ : OpenClaim) => (P.stopKnobs == [])) Tryz.checked.prog 7 Tryz.f7 Rows.watchKnownSpec Rows.watchKnownRow = true := by kernel_rfl
theorem j9 : (fun (P : Program) (f : FuncId) (_ : Func) (_ : ChangeSpec) (c : OpenClaim) => (c.inPlace == P.inPlace f)) Tryz.checked.prog 7 Tryz.f7 Rows.watchKnownSpec Rows.watchKnownRow = true := by kernel_rfl
theorem j10 : (fun (P : Program) (f : FuncId) (_ : Func) (_ : ChangeSpec) (c : OpenClaim) => (c.unfollowed == P.unfollowed f)) Tryz.checked.prog 7 Tryz.f7 Rows.watchKnownSpec Rows.watchKnownRow = true := by kernel_rfl
theorem j11 : (fun (P : Program) (f : FuncId) (_ : Func) (_ : ChangeSpec) (c : OpenClaim) => (c.recurses == P.recurses f)) Tryz.checked.prog 7 Tryz.f7 Rows.watchKnownSpec Rows.watchKnownRow = true := by kernel_rfl
theorem j12 : (fun (P : Program) (f : FuncId) (_ : Func) (_ : ChangeSpec) (c : OpenClaim) => (c.named == P.varsNamed f)) Tryz.checked.prog 7 Tryz.f7 Rows.watchKnownSpec Rows.watchKnownRow = true := by kernel_rfl
theorem j13 : (fun (P : Program) (_ : FuncId) (fn : Func) (s : ChangeSpec) (c : OpenClaim) => (c.maps == (fn.params.toList ++ s.plain.varTypes P).any (P.mapsRec ·))) Tryz.checked.prog 7 Tryz.f7 Rows.watchKnownSpec Rows.watchKnownRow = true := by kernel_rfl
theorem j14 : (fun (P : Program) (_ : FuncId) (fn : Func) (s : ChangeSpec) (c : OpenClaim) => (c.ifaces == (fn.params.toList ++ s.plain.varTypes P).any (P.ifacesRec ·))) Tryz.checked.prog 7 Tryz.f7 Rows.watchKnownSpec Rows.watchKnownRow = true := by kernel_rfl
theorem j15 : (fun (P : Program) (_ : FuncId) (fn : Func) (_ : ChangeSpec) (c : OpenClaim) => (c.mapsOut == P.mapsAmong fn.resultTypes.toList)) Tryz.checked.prog 7 Tryz.f7 Rows.watchKnownSpec Rows.watchKnownRow = true := by kernel_rfl
theorem j16 : (fun (P : Program) (_ : FuncId) (fn : Func) (s : ChangeSpec) (c : OpenClaim) => (c.loops == (fn.params.toList ++ s.plain.varTypes P).any (P.loopsFrom ·))) Tryz.checked.prog 7 Tryz.f7 Rows.watchKnownSpec Rows.watchKnownRow = true := by kernel_rfl
theorem j17 : (fun (P : Program) (_ : FuncId) (fn : Func) (s : ChangeSpec) (c : OpenClaim) => (c.wideKeys == (fn.params.toList ++ s.plain.varTypes P ++ fn.resultTypes.toList).any (P.wideKeysFrom ·))) Tryz.checked.prog 7 Tryz.f7 Rows.watchKnownSpec Rows.watchKnownRow = true := by kernel_rfl
theorem j18 : (fun (P : Program) (_ : FuncId) (_ : Func) (s : ChangeSpec) (_ : OpenClaim) => s.vars.all (P.varReadable ·)) Tryz.checked.prog 7 Tryz.f7 Rows.watchKnownSpec Rows.watchKnownRow = true := by kernel_rfl
theorem j19 : (fun (P : Program) (_ : FuncId) (fn : Func) (_ : ChangeSpec) (_ : OpenClaim) => fn.resultTypes.all (fun t => P.readableRec t && decide (t < P.types.size))) Tryz.checked.prog 7 Tryz.f7 Rows.watchKnownSpec Rows.watchKnownRow = true := by kernel_rfl
theorem j20 : (fun (P : Program) (_ : FuncId) (fn : Func) (_ : ChangeSpec) (c : OpenClaim) => (c.ifacesOut == fn.resultTypes.toList.any (P.ifacesRec ·))) Tryz.checked.prog 7 Tryz.f7 Rows.watchKnownSpec Rows.watchKnownRow = true := by kernel_rfl
theorem j21 : (fun (P : Program) (_ : FuncId) (fn : Func) (_ : ChangeSpec) (c : OpenClaim) => (c.loopsOut == fn.resultTypes.toList.any (P.loopsFrom ·))) Tryz.checked.prog 7 Tryz.f7 Rows.watchKnownSpec Rows.watchKnownRow = true := by kernel_rfl
theorem j22 : (fun (P : Program) (_ : FuncId) (_ : Func) (_ : ChangeSpec) (c : OpenClaim) => (c.plainKeys == P.plainKeys)) Tryz.checked.prog 7 Tryz.f7 Rows.watchKnownSpec Rows.watchKnownRow = true := by kernel_rfl
theorem j23 : (fun (_ : Program) (_ : FuncId) (_ : Func) (_ : ChangeSpec) (c : OpenClaim) => c.shortTexts.isNone) Tryz.checked.prog 7 Tryz.f7 Rows.watchKnownSpec Rows.watchKnownRow = true := by kernel_rfl
theorem j24 : (fun (P : Program) (_ : FuncId) (_ : Func) (_ : ChangeSpec) (_ : OpenClaim) => P.stopsHeard) Tryz.checked.prog 7 Tryz.f7 Rows.watchKnownSpec Rows.watchKnownRow = true := by kernel_rfl
theorem j25 : (fun (P : Program) (_ : FuncId) (_ : Func) (_ : ChangeSpec) (_ : OpenClaim) => P.mayEnter) Tryz.checked.prog 7 Tryz.f7 Rows.watchKnownSpec Rows.watchKnownRow = true := by kernel_rfl
theorem j26 : (fun (P : Program) (_ : FuncId) (_ : Func) (_ : ChangeSpec) (c : OpenClaim) => (c.lifted == P.liftsFinal)) Tryz.checked.prog 7 Tryz.f7 Rows.watchKnownSpec Rows.watchKnownRow = true := by kernel_rfl
theorem j27 : (fun (P : Program) (_ : FuncId) (_ : Func) (_ : ChangeSpec) (c : OpenClaim) => (P.make == some c.make)) Tryz.checked.prog 7 Tryz.f7 Rows.watchKnownSpec Rows.watchKnownRow = true := by kernel_rfl
theorem j28 : (fun (P : Program) (_ : FuncId) (fn : Func) (_ : ChangeSpec) (c : OpenClaim) => (c.kinds == (if c.domain.isEmpty then [] else fn.params.toList.map fun t => match P.underlying t with | some (.int k) => some k | _ => none))) Tryz.checked.prog 7 Tryz.f7 Rows.watchKnownSpec Rows.watchKnownRow = true := by kernel_rfl
theorem j29 : (fun (_ : Program) (_ : FuncId) (_ : Func) (_ : ChangeSpec) (c : OpenClaim) => (c.pinned == c.pinnedBy)) Tryz.checked.prog 7 Tryz.f7 Rows.watchKnownSpec Rows.watchKnownRow = true := by kernel_rfl
theorem j30 : (fun (P : Program) (_ : FuncId) (fn : Func) (s : ChangeSpec) (c : OpenClaim) => (c.veiled == (fn.params.toList ++ s.plain.varTypes P ++ fn.resultTypes.toList).any (P.veiledRec ·))) Tryz.checked.prog 7 Tryz.f7 Rows.watchKnownSpec Rows.watchKnownRow = true := by kernel_rfl
theorem j31 : (fun (P : Program) (_ : FuncId) (fn : Func) (s : ChangeSpec) (c : OpenClaim) => c.veiledFits P fn.params.toList (fn.params.toList ++ s.plain.varTypes P ++ fn.resultTypes.toList)) Tryz.checked.prog 7 Tryz.f7 Rows.watchKnownSpec Rows.watchKnownRow = true := by kernel_rfl
theorem facts : joinedFacts Tryz.checked.prog 7 Tryz.f7 Rows.watchKnownSpec Rows.watchKnownRow = true := joined_of j0 j1 j2 j3 j4 j5 j6 j7 j8 j9 j10 j11 j12 j13 j14 j15 j16 j17 j18 j19 j20 j21 j22 j23 j24 j25 j26 j27 j28 j29 j30 j31

theorem own : ownKnob Tryz.prog.godebug = none := by kernel_rfl

set_option maxRecDepth 100000 in
theorem lifted (os : Os) (started : os.Started) (H : Type) (enc : TypeId × Value → H) :
    ReturnsInHanded {} Tryz.checked os 7 .any (Rows.watchKnownSpec.pre6 enc Tryz.prog Tryz.f7 Rows.watchKnownRow.domain false) (Rows.watchKnownSpec.post enc Tryz.prog Tryz.f7 false true false false) := by
  refine returnsInHanded_of_change (C := Tryz.checked) own started (by kernel_rfl) Tryz.func7
    (ChangeSpec.witness6 (enc := enc) (C := Tryz.checked) false ⟨#[], #[], []⟩ 8 (by kernel_rfl) (by kernel_rfl) (by kernel_rfl) (by kernel_rfl)) ?_
  intro W base args ds gs before hval0 hW hcnd _
  have hW' := hW
  obtain ⟨p, q, hA0, hV, rfl, hfz, hnd⟩ := hW
  have hA : DataW.TrodAll enc Tryz.prog W 0 (fun _ => true) true Tryz.f7.params.toList args.toList ds p := hA0
  rw [Tryz.params7] at hA
  obtain ⟨rfl, rfl, rfl⟩ := trodAll_none hA
  obtain ⟨rfl, rfl⟩ := trodVars_none hV
  simp only [List.append_nil] at hW'
  refine (Wa.walk W).mono fun e W' ⟨he, hb⟩ => ?_
  subst he
  exact ⟨_, rfl, [], [], [], [], [], [], hW', trodAll_cons_mk (shut_bool Tryz.underlying4 _) trodAll_mk0, trodAll_mk0, rfl, hb.frame _, fun h => by cases h⟩

theorem over : Rows.watchKnownRow.holds Tryz.pinned (OpenSpec.ofChange Rows.watchKnownSpec) :=
  OpenClaim.holds_of_wide 7 Tryz.f7 rfl rfl rfl rfl rfl rfl rfl ⟨rfl, rfl, rfl, rfl, rfl⟩ rfl rfl rfl rfl rfl (by kernel_rfl) Tryz.func7 facts
    (of_decide_eq_true (by kernel_rfl)) (by unfold Func.isWrapper; first | (rw [if_pos (by decide +kernel)]; kernel_rfl) | (rw [if_neg (by decide +kernel)]; exact ⟨rfl, rfl⟩))
    (fun os started H enc _ => lifted os started H enc)

theorem proved : Rows.WatchKnownSaid := over
#print axioms proved
end Go.Proofs.YtcofhdoeaiknkaaGreat.watchKnown

/-
  'HashCanon' returns true, whatever the input; each argument reads as it did. No condition.
-/
import Derived.Test.YtakgpgamcmemgaaGreatRows
import Derived.Test.YtakgpgamcmemgaaGreatG2
import Derived.Test.YtakgpgamcmemgaaGreatWkE
import Derived.Test.YtakgpgamcmemgaaGreatFacts
import Derived.ProofKit
import Derived.OpenShut
namespace Go.Proofs.YtakgpgamcmemgaaGreat.S
open Go Go.AX
noncomputable section
set_option maxRecDepth 100000
theorem u28s : P.underlying 28 = some (.struct (fieldsOf P 28)) := by kernel_rfl
theorem u26s : P.underlying 26 = some (.struct (fieldsOf P 26)) := by kernel_rfl
theorem u24s : P.underlying 24 = some (.struct (fieldsOf P 24)) := by kernel_rfl
theorem u22i : P.underlying 22 = some (.int .u64) := by kernel_rfl
theorem u4b : P.underlying 4 = some .bool := by kernel_rfl

theorem rev_dec {K : Type} {enc : TypeId × Value → K} {w : World} {b : Nat} {sp : Nat → Bool} {hd : Bool} (n : Nat) (cs : List Value) (x : DataW K × List MemPlace) (h : DataW.trod enc P w b sp hd n 24 cs = some x) :
    ∃ m s : Nat, m < M64 ∧ s < M64 ∧ cs = [.int .u64 (.ofNat m), .int .u64 (.ofNat s)] := by
  obtain ⟨hl, n0, y0, h0⟩ := trod_field (i := 0) (ty := 22) (off := 0) u24s (by kernel_rfl) h
  obtain ⟨_, n1, y1, h1⟩ := trod_field (i := 1) (ty := 22) (off := 1) u24s (by kernel_rfl) h
  rw [show P.cellsOf 22 = 1 by kernel_rfl] at h0 h1
  rw [show P.cellsOf 24 = 2 by kernel_rfl] at hl
  obtain ⟨m, e0, hm⟩ := trod_nat (k := .u64) rfl u22i h0
  obtain ⟨s, e1, hs⟩ := trod_nat (k := .u64) rfl u22i h1
  match cs, hl with
  | [c0, c1], _ =>
    simp at e0 e1
    exact ⟨m, s, hm, hs, by rw [e0, e1]; rfl⟩

theorem kv_dec {K : Type} {enc : TypeId × Value → K} {w : World} {b : Nat} {sp : Nat → Bool} {hd : Bool} (n : Nat) (cs : List Value) (x : DataW K × List MemPlace) (h : DataW.trod enc P w b sp hd n 26 cs = some x) :
    ∃ (k v : ByteArray) (c d r : Nat), c < M64 ∧ d < M64 ∧ r < M64 ∧ cs = [.string k, .string v, .int .u64 (.ofNat c), .int .u64 (.ofNat d), .int .u64 (.ofNat r)] := by
  obtain ⟨hl, n0, y0, h0⟩ := trod_field (i := 0) (ty := 9) (off := 0) u26s (by kernel_rfl) h
  obtain ⟨_, n1, y1, h1⟩ := trod_field (i := 1) (ty := 9) (off := 1) u26s (by kernel_rfl) h
  obtain ⟨_, n2, y2, h2⟩ := trod_field (i := 2) (ty := 22) (off := 2) u26s (by kernel_rfl) h
  obtain ⟨_, n3, y3, h3⟩ := trod_field (i := 3) (ty := 22) (off := 3) u26s (by kernel_rfl) h
  obtain ⟨_, n4, y4, h4⟩ := trod_field (i := 4) (ty := 22) (off := 4) u26s (by kernel_rfl) h
  rw [show P.cellsOf 9 = 1 by kernel_rfl] at h0 h1
  rw [show P.cellsOf 22 = 1 by kernel_rfl] at h2 h3 h4
  rw [show P.cellsOf 26 = 5 by kernel_rfl] at hl
  obtain ⟨k, e0, _, _⟩ := DataW.trod_string u9a h0
  obtain ⟨v, e1, _, _⟩ := DataW.trod_string u9a h1
  obtain ⟨c, e2, q2⟩ := trod_nat (k := .u64) rfl u22i h2
  obtain ⟨d, e3, q3⟩ := trod_nat (k := .u64) rfl u22i h3
  obtain ⟨r, e4, q4⟩ := trod_nat (k := .u64) rfl u22i h4
  match cs, hl with
  | [c0, c1, c2, c3, c4], _ =>
    simp at e0 e1 e2 e3 e4
    exact ⟨k, v, c, d, r, q2, q3, q4, by rw [e0, e1, e2, e3, e4]; rfl⟩

theorem rec_dec {K : Type} {enc : TypeId × Value → K} {w : World} {b : Nat} {sp : Nat → Bool} {hd : Bool} (n : Nat) (cs : List Value) (x : DataW K × List MemPlace) (h : DataW.trod enc P w b sp hd n 28 cs = some x) :
    ∃ (m s : Nat) (k v : ByteArray) (c d r : Nat) (t : Bool), (m < M64 ∧ s < M64 ∧ c < M64 ∧ d < M64 ∧ r < M64) ∧ cs = [.int .u64 (.ofNat m), .int .u64 (.ofNat s), .string k, .string v, .int .u64 (.ofNat c), .int .u64 (.ofNat d), .int .u64 (.ofNat r), .bool t] := by
  obtain ⟨hl, n0, y0, h0⟩ := trod_field (i := 0) (ty := 24) (off := 0) u28s (by kernel_rfl) h
  obtain ⟨_, n1, y1, h1⟩ := trod_field (i := 1) (ty := 26) (off := 2) u28s (by kernel_rfl) h
  obtain ⟨_, n2, y2, h2⟩ := trod_field (i := 2) (ty := 4) (off := 7) u28s (by kernel_rfl) h
  rw [show P.cellsOf 24 = 2 by kernel_rfl] at h0
  rw [show P.cellsOf 26 = 5 by kernel_rfl] at h1
  rw [show P.cellsOf 4 = 1 by kernel_rfl] at h2
  rw [show P.cellsOf 28 = 8 by kernel_rfl] at hl
  obtain ⟨m, s, q0, q1, e0⟩ := rev_dec _ _ _ h0
  obtain ⟨k, v, c, d, r, q2, q3, q4, e1⟩ := kv_dec _ _ _ h1
  obtain ⟨t, e2, _⟩ := DataW.trod_bool u4b h2
  match cs, hl with
  | [c0, c1, c2, c3, c4, c5, c6, c7], _ =>
    simp at e0 e1 e2
    exact ⟨m, s, k, v, c, d, r, t, ⟨q0, q1, q2, q3, q4⟩, by rw [e0.1, e0.2, e1.1, e1.2.1, e1.2.2.1, e1.2.2.2.1, e1.2.2.2.2, e2]; rfl⟩

/-- A record that came in. -/
theorem rec_arg {K : Type} {enc : TypeId × Value → K} {w : World} {b : Nat} {sp : Nat → Bool} {hd : Bool} {r : Go.Reach} {b0 : Nat} {v : Value} (hval : Value.okWide P w r b0 28 v) {d : DataW K} {ps : List MemPlace} (h : DataW.Trod enc P w b sp hd 28 v d ps) :
    ∃ a : Rc, a.ok ∧ ∀ φ, VR φ a.av v := by
  obtain ⟨cs, rfl, _⟩ := WideShapes.okWide_struct u28s hval
  obtain ⟨fuel, hf⟩ := h
  obtain ⟨m, s, k, v, c, d, r, t, hq, e⟩ := rec_dec _ _ _ hf
  refine ⟨⟨m, s, bytesOf k, bytesOf v, c, d, r, t⟩, hq, fun φ => ?_⟩
  unfold Rc.av
  rw [VR_agg]
  refine ⟨_, rfl, ?_⟩
  have e : cs.toList = [.int .u64 (.ofNat m), .int .u64 (.ofNat s), .string k, .string v, .int .u64 (.ofNat c), .int .u64 (.ofNat d), .int .u64 (.ofNat r), .bool t] := by simpa [Value.cells] using e
  rw [e]
  refine ⟨by simp, by simp, ?_, ?_, by simp, by simp, by simp, by simp, trivial⟩
  · rw [VR_str]; exact ⟨k, rfl, rfl⟩
  · rw [VR_str]; exact ⟨v, rfl, rfl⟩
end
end Go.Proofs.YtakgpgamcmemgaaGreat.S

namespace Go.Proofs.YtakgpgamcmemgaaGreat.hashCanon
open Go.ChangeShapes Go.WideShapes Go.ChangeAt Go.RowKit

theorem own : ownKnob Tryz.prog.godebug = none := by kernel_rfl

theorem laidOut : laidOutB Tryz.prog = true := by kernel_rfl
theorem readable : ∀ t, t ∈ [28] → Tryz.prog.readableRec t = true ∧ t < Tryz.prog.types.size := by
  intro t ht
  simp only [List.mem_cons, List.mem_nil_iff, or_false] at ht
  rcases ht with rfl
  exact ⟨by kernel_rfl, of_decide_eq_true (by kernel_rfl)⟩

set_option maxRecDepth 100000 in
theorem walk (M : World) (x : S.Rc) (v : Value) (hx : x.ok) (hv : ∀ φ, AX.VR φ x.av v) :
    Calls Tryz.prog 3 #[v] M fun e w' => e = .returned (.bool true) ∧ Below M.heap.size M w' := by
  have hw := S.lawW Wk.known (AX.absH M) x hx
  refine (AX.calls_of_codeW (fn := Tryz.f3) (c := AX.bodyC Tryz.f3) Tryz.func3 rfl hw (AX.absH_rel M) (Nat.le_refl _) (cargs := #[v]) ⟨hv _, trivial⟩).mono ?_
  rintro e1 w' ⟨N', φ', cv', v', h', _, rfl, hq, _, hv', _, hb⟩
  have hq : v' = .bool true := hq
  subst hq
  rw [AX.VR_bool] at hv'; subst hv'
  exact ⟨rfl, hb⟩

set_option maxRecDepth 100000 in
theorem lifted (os : Os) (started : os.Started) (H : Type) (enc : TypeId × Value → H) :
    ReturnsInHanded {} Tryz.checked os 3 .any (Rows.hashCanonSpec.pre6 enc Tryz.prog Tryz.f3 Rows.hashCanonRow.domain false) (Rows.hashCanonSpec.post enc Tryz.prog Tryz.f3 false true false false) := by
  refine returnsInHanded_of_change (C := Tryz.checked) own started (by kernel_rfl) Tryz.func3
    (ChangeSpec.witness6 (enc := enc) (C := Tryz.checked) false ⟨#[], #[.agg #[.int .u64 0, .int .u64 0, .string ⟨#[]⟩, .string ⟨#[]⟩, .int .u64 0, .int .u64 0, .int .u64 0, .bool false]], []⟩ 8 (by kernel_rfl) (by kernel_rfl) (by kernel_rfl) (by kernel_rfl)) ?_
  intro M base args ds gs before hval0 hW hcnd _
  have hW' := hW
  have hlt := hW.lt
  obtain ⟨p, q, hA0, hV, rfl, hfz, hnd⟩ := hW
  have hA : DataW.TrodAll enc Tryz.prog M 0 (fun _ => true) true Tryz.f3.params.toList args.toList ds p := hA0
  rw [Tryz.params3] at hA hval0
  have hA1 := hA
  obtain ⟨v0, vs0, d0, ds0, p0, q0, hargs, rfl, rfl, g0, r0⟩ := trodAll_cons hA
  obtain ⟨rfl, rfl, rfl⟩ := trodAll_nil r0
  obtain rfl : args = #[v0] := by cases args; simp_all
  obtain ⟨rfl, rfl⟩ := trodVars_none hV
  obtain ⟨x, hx, hv⟩ := S.rec_arg (hval0 0 28 v0 rfl rfl) g0
  simp only [List.append_nil] at hW' hlt
  refine (walk M x v0 hx hv).mono fun e1 M' ⟨he, hb⟩ => ?_
  subst he
  exact ⟨_, rfl, _, [], _, [], _, [], hW', trodAll_cons_mk (shut_bool Tryz.underlying4 _) trodAll_mk0, AX.trodAll_below laidOut hb readable hA1 (fun p hp => hlt p (by simpa using hp)) _ (fun p hp => decide_eq_true (hlt p (by simpa using hp))), rfl, hb.frame _, fun h => by cases h⟩

theorem over : Rows.hashCanonRow.holds Tryz.pinned (OpenSpec.ofChange Rows.hashCanonSpec) :=
  OpenClaim.holds_of_wide 3 Tryz.f3 rfl rfl rfl rfl rfl rfl rfl ⟨rfl, rfl, rfl, rfl, rfl⟩ rfl rfl rfl rfl rfl (by kernel_rfl) Tryz.func3 facts
    (of_decide_eq_true (by kernel_rfl)) (by unfold Func.isWrapper; first | (rw [if_pos (by decide +kernel)]; kernel_rfl) | (rw [if_neg (by decide +kernel)]; exact ⟨rfl, rfl⟩))
    (fun os started H enc _ => lifted os started H enc)

theorem proved : Rows.HashCanonSaid := over
#print axioms proved

end Go.Proofs.YtakgpgamcmemgaaGreat.hashCanon

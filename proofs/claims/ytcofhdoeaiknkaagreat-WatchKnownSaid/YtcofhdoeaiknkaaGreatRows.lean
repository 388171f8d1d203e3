/-
  No cell of these rows narrows 'for every input' (looked for: loops, veiled, ifaces, maps, wideKeys, modest, calm, conditions, laid).
  DERIVED. THE GIVEN ROWS OF THIS SEAT. 5 by the template 'for every input the law returns true; each argument reads behind the call as it read before'; 0 by the template 'total and deterministic' (their statements: YtcofhdoeaiknkaaGreatTotals.lean).
  GIVEN WITH THE SEED: the statements are not yours to turn. If you find one false, say at which input.
  Laid BY PROGRAM, IN A SANDBOX (cutbox-rows.mjs): the forced cells as the released guide's own fill.sh prints them over the translation 1dd158b1a6e7de6d… (all of the seat's roots in one cut). By AI agents, Wed Nov 11 2026. No macro, syntax, notation, axiom, sorry.
-/
import Derived.Test.YtcofhdoeaiknkaaGreatChecked
import GoSem.Claim
import GoSem.ClaimJoined
import GoSem.ClaimMapViews
import Derived.JoinedTies
import Derived.KernelRfl
namespace Go.Proofs.YtcofhdoeaiknkaaGreat
/- THE CELL 'sum', in the pinned program and in every row, IS THE sha256 OF THE DUMP (.gsa) THAT YtcofhdoeaiknkaaGreatProg.lean LOADS. Nothing in Lean hashes anything: it is a label: what it is worth is what the hold of that sum in a sandbox is worth. -/
noncomputable def Tryz.pinned : Pinned := { name := "ytcofhdoeaiknkaagreat", sum := "1dd158b1a6e7de6dbd22f14e3e5d23bb6b303abf29632295cb8b42a72957e5af", checked := Tryz.checked }
namespace Rows
def none {H : Type} : Left H := { results := [], args := [] }

/-- 'sedimentlaw18.EventKnown': WHATEVER THE INPUT: true; the input reads as it did. -/
def eventKnownSpec : ChangeSpec := { name := "eventKnown", fn := fun _ => fun
  | [] => { results := [.lit (.bool true)], args := [] }
  | _ => none }
def eventKnownRow : OpenClaim := { program := "ytcofhdoeaiknkaagreat", sum := "1dd158b1a6e7de6dbd22f14e3e5d23bb6b303abf29632295cb8b42a72957e5af", func := "sediment/sedimentlaw18.EventKnown", spec := "eventKnown", inPlace := ["slices.overlaps[sediment/index.pair[sediment/gens.Gens]]", "slices.overlaps[int]", "slices.overlaps[string]", "slices.overlaps[uint32]"], unfollowed := true, recurses := true, plainKeys := false, apart := false }
def EventKnownSaid : Prop := eventKnownRow.holds Tryz.pinned (OpenSpec.ofChange eventKnownSpec)

/-- ITS FALSE NEIGHBOUR: 'it returns false'. Refute it at one input. -/
def eventKnownWrong : ChangeSpec := { name := "eventKnown", fn := fun _ => fun
  | [] => { results := [.lit (.bool false)], args := [] }
  | _ => none }
def EventKnownWrongFalsely : Prop := eventKnownRow.holds Tryz.pinned (OpenSpec.ofChange eventKnownWrong)

/-- 'sedimentlaw17.HashKnown': WHATEVER THE INPUT: true; the input reads as it did. -/
def hashKnownSpec : ChangeSpec := { name := "hashKnown", fn := fun _ => fun
  | [] => { results := [.lit (.bool true)], args := [] }
  | _ => none }
def hashKnownRow : OpenClaim := { program := "ytcofhdoeaiknkaagreat", sum := "1dd158b1a6e7de6dbd22f14e3e5d23bb6b303abf29632295cb8b42a72957e5af", func := "sediment/sedimentlaw17.HashKnown", spec := "hashKnown", inPlace := ["slices.overlaps[sediment/index.pair[sediment/gens.Gens]]", "slices.overlaps[int]", "slices.overlaps[string]", "slices.overlaps[uint32]"], unfollowed := true, recurses := true, plainKeys := false, apart := false }
def HashKnownSaid : Prop := hashKnownRow.holds Tryz.pinned (OpenSpec.ofChange hashKnownSpec)

/-- ITS FALSE NEIGHBOUR: 'it returns false'. Refute it at one input. -/
def hashKnownWrong : ChangeSpec := { name := "hashKnown", fn := fun _ => fun
  | [] => { results := [.lit (.bool false)], args := [] }
  | _ => none }
def HashKnownWrongFalsely : Prop := hashKnownRow.holds Tryz.pinned (OpenSpec.ofChange hashKnownWrong)

/-- 'sedimentlaw15.StoreKnown': WHATEVER THE INPUT: true; the input reads as it did. -/
def storeKnownSpec : ChangeSpec := { name := "storeKnown", fn := fun _ => fun
  | [] => { results := [.lit (.bool true)], args := [] }
  | _ => none }
def storeKnownRow : OpenClaim := { program := "ytcofhdoeaiknkaagreat", sum := "1dd158b1a6e7de6dbd22f14e3e5d23bb6b303abf29632295cb8b42a72957e5af", func := "sediment/sedimentlaw15.StoreKnown", spec := "storeKnown", inPlace := ["slices.overlaps[sediment/index.pair[sediment/gens.Gens]]", "slices.overlaps[int]", "slices.overlaps[string]", "slices.overlaps[uint32]"], unfollowed := true, recurses := true, plainKeys := false, apart := false }
def StoreKnownSaid : Prop := storeKnownRow.holds Tryz.pinned (OpenSpec.ofChange storeKnownSpec)

/-- ITS FALSE NEIGHBOUR: 'it returns false'. Refute it at one input. -/
def storeKnownWrong : ChangeSpec := { name := "storeKnown", fn := fun _ => fun
  | [] => { results := [.lit (.bool false)], args := [] }
  | _ => none }
def StoreKnownWrongFalsely : Prop := storeKnownRow.holds Tryz.pinned (OpenSpec.ofChange storeKnownWrong)

/-- 'sedimentlaw16.CompactKnown': WHATEVER THE INPUT: true; the input reads as it did. -/
def compactKnownSpec : ChangeSpec := { name := "compactKnown", fn := fun _ => fun
  | [] => { results := [.lit (.bool true)], args := [] }
  | _ => none }
def compactKnownRow : OpenClaim := { program := "ytcofhdoeaiknkaagreat", sum := "1dd158b1a6e7de6dbd22f14e3e5d23bb6b303abf29632295cb8b42a72957e5af", func := "sediment/sedimentlaw16.CompactKnown", spec := "compactKnown", inPlace := ["slices.overlaps[sediment/index.pair[sediment/gens.Gens]]", "slices.overlaps[int]", "slices.overlaps[string]", "slices.overlaps[uint32]"], unfollowed := true, recurses := true, plainKeys := false, apart := false }
def CompactKnownSaid : Prop := compactKnownRow.holds Tryz.pinned (OpenSpec.ofChange compactKnownSpec)

/-- ITS FALSE NEIGHBOUR: 'it returns false'. Refute it at one input. -/
def compactKnownWrong : ChangeSpec := { name := "compactKnown", fn := fun _ => fun
  | [] => { results := [.lit (.bool false)], args := [] }
  | _ => none }
def CompactKnownWrongFalsely : Prop := compactKnownRow.holds Tryz.pinned (OpenSpec.ofChange compactKnownWrong)

/-- 'sedimentlaw19.WatchKnown': WHATEVER THE INPUT: true; the input reads as it did. -/
def watchKnownSpec : ChangeSpec := { name := "watchKnown", fn := fun _ => fun
  | [] => { results := [.lit (.bool true)], args := [] }
  | _ => none }
def watchKnownRow : OpenClaim := { program := "ytcofhdoeaiknkaagreat", sum := "1dd158b1a6e7de6dbd22f14e3e5d23bb6b303abf29632295cb8b42a72957e5af", func := "sediment/sedimentlaw19.WatchKnown", spec := "watchKnown", inPlace := ["slices.overlaps[sediment/index.pair[sediment/gens.Gens]]", "slices.overlaps[int]", "slices.overlaps[string]", "slices.overlaps[uint32]"], unfollowed := true, recurses := true, plainKeys := false, apart := false }
def WatchKnownSaid : Prop := watchKnownRow.holds Tryz.pinned (OpenSpec.ofChange watchKnownSpec)

/-- ITS FALSE NEIGHBOUR: 'it returns false'. Refute it at one input. -/
def watchKnownWrong : ChangeSpec := { name := "watchKnown", fn := fun _ => fun
  | [] => { results := [.lit (.bool false)], args := [] }
  | _ => none }
def WatchKnownWrongFalsely : Prop := watchKnownRow.holds Tryz.pinned (OpenSpec.ofChange watchKnownWrong)

/- THE SECOND FORM. 'bulk': how many values and letters a reading holds, each counted each time it is reached (what is shared counts as often as it is met; a slice's spare places count too). A statement '..UptoSaid' is the law's where the arguments, and the package variables that the reading takes, are together of bulk at most 1048576: NARROWER than '..Said'. Prove '..Said' where nothing that the law and all that it calls make is longer than what came in: it says more and counts as full. Else prove '..UptoSaid'. A law counts once. -/
mutual
def uptoBulk {H : Type} : DataW H → Nat
  | .lit (.string bytes) => bytes.length + 1
  | .lit _ => 1
  | .nil => 1
  | .ptr d => uptoBulk d + 1
  | .slice elems spare => uptoBulkAll elems + uptoBulkAll spare + 1
  | .agg parts => uptoBulkAll parts + 1
  | .iface _ d => uptoBulk d + 1
  | .map entries => uptoBulkEntries entries + 1
  | .held _ => 1
def uptoBulkAll {H : Type} : List (DataW H) → Nat
  | [] => 0
  | d :: r => uptoBulk d + uptoBulkAll r
def uptoBulkEntries {H : Type} : List (Lit × DataW H) → Nat
  | [] => 0
  | x :: r => uptoBulkEntry x + uptoBulkEntries r
def uptoBulkEntry {H : Type} : Lit × DataW H → Nat
  | (.string bytes, d) => bytes.length + uptoBulk d + 1
  | (_, d) => uptoBulk d + 1
 end
def uptoSmall : (H : Type) → List (DataW H) → Bool := fun _ ds => decide (uptoBulkAll ds ≤ 1048576)
def OpenSpec.upto (s : _root_.Go.ChangeSpec) : _root_.Go.OpenSpec := { _root_.Go.OpenSpec.ofChange s with cond := some uptoSmall }

/-- 'sedimentlaw18.EventKnown', WHERE WHAT IT READS IS OF BULK AT MOST 1048576: true; the input reads as it did. -/
def eventKnownUptoRow : OpenClaim := { program := "ytcofhdoeaiknkaagreat", sum := "1dd158b1a6e7de6dbd22f14e3e5d23bb6b303abf29632295cb8b42a72957e5af", func := "sediment/sedimentlaw18.EventKnown", spec := "eventKnown", inPlace := ["slices.overlaps[sediment/index.pair[sediment/gens.Gens]]", "slices.overlaps[int]", "slices.overlaps[string]", "slices.overlaps[uint32]"], unfollowed := true, recurses := true, plainKeys := false, apart := false, narrowed := true }
def EventKnownUptoSaid : Prop := eventKnownUptoRow.holds Tryz.pinned (OpenSpec.upto eventKnownSpec)

/-- 'sedimentlaw17.HashKnown', WHERE WHAT IT READS IS OF BULK AT MOST 1048576: true; the input reads as it did. -/
def hashKnownUptoRow : OpenClaim := { program := "ytcofhdoeaiknkaagreat", sum := "1dd158b1a6e7de6dbd22f14e3e5d23bb6b303abf29632295cb8b42a72957e5af", func := "sediment/sedimentlaw17.HashKnown", spec := "hashKnown", inPlace := ["slices.overlaps[sediment/index.pair[sediment/gens.Gens]]", "slices.overlaps[int]", "slices.overlaps[string]", "slices.overlaps[uint32]"], unfollowed := true, recurses := true, plainKeys := false, apart := false, narrowed := true }
def HashKnownUptoSaid : Prop := hashKnownUptoRow.holds Tryz.pinned (OpenSpec.upto hashKnownSpec)

/-- 'sedimentlaw15.StoreKnown', WHERE WHAT IT READS IS OF BULK AT MOST 1048576: true; the input reads as it did. -/
def storeKnownUptoRow : OpenClaim := { program := "ytcofhdoeaiknkaagreat", sum := "1dd158b1a6e7de6dbd22f14e3e5d23bb6b303abf29632295cb8b42a72957e5af", func := "sediment/sedimentlaw15.StoreKnown", spec := "storeKnown", inPlace := ["slices.overlaps[sediment/index.pair[sediment/gens.Gens]]", "slices.overlaps[int]", "slices.overlaps[string]", "slices.overlaps[uint32]"], unfollowed := true, recurses := true, plainKeys := false, apart := false, narrowed := true }
def StoreKnownUptoSaid : Prop := storeKnownUptoRow.holds Tryz.pinned (OpenSpec.upto storeKnownSpec)

/-- 'sedimentlaw16.CompactKnown', WHERE WHAT IT READS IS OF BULK AT MOST 1048576: true; the input reads as it did. -/
def compactKnownUptoRow : OpenClaim := { program := "ytcofhdoeaiknkaagreat", sum := "1dd158b1a6e7de6dbd22f14e3e5d23bb6b303abf29632295cb8b42a72957e5af", func := "sediment/sedimentlaw16.CompactKnown", spec := "compactKnown", inPlace := ["slices.overlaps[sediment/index.pair[sediment/gens.Gens]]", "slices.overlaps[int]", "slices.overlaps[string]", "slices.overlaps[uint32]"], unfollowed := true, recurses := true, plainKeys := false, apart := false, narrowed := true }
def CompactKnownUptoSaid : Prop := compactKnownUptoRow.holds Tryz.pinned (OpenSpec.upto compactKnownSpec)

/-- 'sedimentlaw19.WatchKnown', WHERE WHAT IT READS IS OF BULK AT MOST 1048576: true; the input reads as it did. -/
def watchKnownUptoRow : OpenClaim := { program := "ytcofhdoeaiknkaagreat", sum := "1dd158b1a6e7de6dbd22f14e3e5d23bb6b303abf29632295cb8b42a72957e5af", func := "sediment/sedimentlaw19.WatchKnown", spec := "watchKnown", inPlace := ["slices.overlaps[sediment/index.pair[sediment/gens.Gens]]", "slices.overlaps[int]", "slices.overlaps[string]", "slices.overlaps[uint32]"], unfollowed := true, recurses := true, plainKeys := false, apart := false, narrowed := true }
def WatchKnownUptoSaid : Prop := watchKnownUptoRow.holds Tryz.pinned (OpenSpec.upto watchKnownSpec)

end Rows
end Go.Proofs.YtcofhdoeaiknkaaGreat

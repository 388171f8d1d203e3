/-
  No cell of these rows narrows 'for every input' (looked for: loops, veiled, ifaces, maps, wideKeys, modest, calm, conditions, laid).
  DERIVED. THE GIVEN ROWS OF THIS SEAT. 8 by the template 'for every input the law returns true; each argument reads behind the call as it read before'; 0 by the template 'total and deterministic' (their statements: YtlkngpckibidlaaTotals.lean).
  GIVEN WITH THE SEED: the statements are not yours to turn. If you find one false, say at which input.
  Laid BY PROGRAM, IN A SANDBOX (cutbox-rows.mjs): the forced cells as the released guide's own fill.sh prints them over the translation 01f7599293cde1ca… (all of the seat's roots in one cut). By AI agents, Wed Nov 11 2026. No macro, syntax, notation, axiom, sorry.
-/
import Derived.Test.YtlkngpckibidlaaChecked
import GoSem.Claim
import GoSem.ClaimJoined
import GoSem.ClaimMapViews
import Derived.JoinedTies
import Derived.KernelRfl
namespace Go.Proofs.Ytlkngpckibidlaa
/- THE CELL 'sum', in the pinned program and in every row, IS THE sha256 OF THE DUMP (.gsa) THAT YtlkngpckibidlaaProg.lean LOADS. Nothing in Lean hashes anything: it is a label: what it is worth is what the hold of that sum in a sandbox is worth. -/
noncomputable def Try.pinned : Pinned := { name := "ytlkngpckibidlaa", sum := "01f7599293cde1cab9bbc840ff020d4e109f58443a868c36005426679e41670b", checked := Try.checked }
namespace Rows
def none {H : Type} : Left H := { results := [], args := [] }

/-- 'sedimentlaw12.GensCompact': WHATEVER THE INPUT: true; the input reads as it did. -/
def gensCompactSpec : ChangeSpec := { name := "gensCompact", fn := fun _ => fun
  | [d1, d2, d3] => { results := [.lit (.bool true)], args := [d1, d2, d3] }
  | _ => none }
def gensCompactRow : OpenClaim := { program := "ytlkngpckibidlaa", sum := "01f7599293cde1cab9bbc840ff020d4e109f58443a868c36005426679e41670b", func := "sediment/sedimentlaw12.GensCompact", spec := "gensCompact", unfollowed := true, recurses := true, apart := false }
def GensCompactSaid : Prop := gensCompactRow.holds Try.pinned (OpenSpec.ofChange gensCompactSpec)

/-- ITS FALSE NEIGHBOUR: 'it returns false'. Refute it at one input. -/
def gensCompactWrong : ChangeSpec := { name := "gensCompact", fn := fun _ => fun
  | [d1, d2, d3] => { results := [.lit (.bool false)], args := [d1, d2, d3] }
  | _ => none }
def GensCompactWrongFalsely : Prop := gensCompactRow.holds Try.pinned (OpenSpec.ofChange gensCompactWrong)

/-- 'sedimentlaw12.GensValue': WHATEVER THE INPUT: true; the input reads as it did. -/
def gensValueSpec : ChangeSpec := { name := "gensValue", fn := fun _ => fun
  | [d1, d2] => { results := [.lit (.bool true)], args := [d1, d2] }
  | _ => none }
def gensValueRow : OpenClaim := { program := "ytlkngpckibidlaa", sum := "01f7599293cde1cab9bbc840ff020d4e109f58443a868c36005426679e41670b", func := "sediment/sedimentlaw12.GensValue", spec := "gensValue", unfollowed := true, recurses := true, apart := false }
def GensValueSaid : Prop := gensValueRow.holds Try.pinned (OpenSpec.ofChange gensValueSpec)

/-- ITS FALSE NEIGHBOUR: 'it returns false'. Refute it at one input. -/
def gensValueWrong : ChangeSpec := { name := "gensValue", fn := fun _ => fun
  | [d1, d2] => { results := [.lit (.bool false)], args := [d1, d2] }
  | _ => none }
def GensValueWrongFalsely : Prop := gensValueRow.holds Try.pinned (OpenSpec.ofChange gensValueWrong)

/-- 'sedimentlaw12.GensPlays': WHATEVER THE INPUT: true; the input reads as it did. -/
def gensPlaysSpec : ChangeSpec := { name := "gensPlays", fn := fun _ => fun
  | [d1, d2] => { results := [.lit (.bool true)], args := [d1, d2] }
  | _ => none }
def gensPlaysRow : OpenClaim := { program := "ytlkngpckibidlaa", sum := "01f7599293cde1cab9bbc840ff020d4e109f58443a868c36005426679e41670b", func := "sediment/sedimentlaw12.GensPlays", spec := "gensPlays", unfollowed := true, recurses := true, apart := false }
def GensPlaysSaid : Prop := gensPlaysRow.holds Try.pinned (OpenSpec.ofChange gensPlaysSpec)

/-- ITS FALSE NEIGHBOUR: 'it returns false'. Refute it at one input. -/
def gensPlaysWrong : ChangeSpec := { name := "gensPlays", fn := fun _ => fun
  | [d1, d2] => { results := [.lit (.bool false)], args := [d1, d2] }
  | _ => none }
def GensPlaysWrongFalsely : Prop := gensPlaysRow.holds Try.pinned (OpenSpec.ofChange gensPlaysWrong)

/-- 'sedimentlaw12.GensBack': WHATEVER THE INPUT: true; the input reads as it did. -/
def gensBackSpec : ChangeSpec := { name := "gensBack", fn := fun _ => fun
  | [d1, d2] => { results := [.lit (.bool true)], args := [d1, d2] }
  | _ => none }
def gensBackRow : OpenClaim := { program := "ytlkngpckibidlaa", sum := "01f7599293cde1cab9bbc840ff020d4e109f58443a868c36005426679e41670b", func := "sediment/sedimentlaw12.GensBack", spec := "gensBack", unfollowed := true, recurses := true, apart := false }
def GensBackSaid : Prop := gensBackRow.holds Try.pinned (OpenSpec.ofChange gensBackSpec)

/-- ITS FALSE NEIGHBOUR: 'it returns false'. Refute it at one input. -/
def gensBackWrong : ChangeSpec := { name := "gensBack", fn := fun _ => fun
  | [d1, d2] => { results := [.lit (.bool false)], args := [d1, d2] }
  | _ => none }
def GensBackWrongFalsely : Prop := gensBackRow.holds Try.pinned (OpenSpec.ofChange gensBackWrong)

/-- 'sedimentlaw12.GensKnown': WHATEVER THE INPUT: true; the input reads as it did. -/
def gensKnownSpec : ChangeSpec := { name := "gensKnown", fn := fun _ => fun
  | [] => { results := [.lit (.bool true)], args := [] }
  | _ => none }
def gensKnownRow : OpenClaim := { program := "ytlkngpckibidlaa", sum := "01f7599293cde1cab9bbc840ff020d4e109f58443a868c36005426679e41670b", func := "sediment/sedimentlaw12.GensKnown", spec := "gensKnown", unfollowed := true, recurses := true, apart := false }
def GensKnownSaid : Prop := gensKnownRow.holds Try.pinned (OpenSpec.ofChange gensKnownSpec)

/-- ITS FALSE NEIGHBOUR: 'it returns false'. Refute it at one input. -/
def gensKnownWrong : ChangeSpec := { name := "gensKnown", fn := fun _ => fun
  | [] => { results := [.lit (.bool false)], args := [] }
  | _ => none }
def GensKnownWrongFalsely : Prop := gensKnownRow.holds Try.pinned (OpenSpec.ofChange gensKnownWrong)

/-- 'sedimentlaw13.IndexFolds': WHATEVER THE INPUT: true; the input reads as it did. -/
def indexFoldsSpec : ChangeSpec := { name := "indexFolds", fn := fun _ => fun
  | [d1, d2] => { results := [.lit (.bool true)], args := [d1, d2] }
  | _ => none }
def indexFoldsRow : OpenClaim := { program := "ytlkngpckibidlaa", sum := "01f7599293cde1cab9bbc840ff020d4e109f58443a868c36005426679e41670b", func := "sediment/sedimentlaw13.IndexFolds", spec := "indexFolds", inPlace := ["slices.overlaps[sediment/index.pair[sediment/gens.Gens]]"], unfollowed := true, recurses := true, apart := false }
def IndexFoldsSaid : Prop := indexFoldsRow.holds Try.pinned (OpenSpec.ofChange indexFoldsSpec)

/-- ITS FALSE NEIGHBOUR: 'it returns false'. Refute it at one input. -/
def indexFoldsWrong : ChangeSpec := { name := "indexFolds", fn := fun _ => fun
  | [d1, d2] => { results := [.lit (.bool false)], args := [d1, d2] }
  | _ => none }
def IndexFoldsWrongFalsely : Prop := indexFoldsRow.holds Try.pinned (OpenSpec.ofChange indexFoldsWrong)

/-- 'sedimentlaw13.IndexKnown': WHATEVER THE INPUT: true; the input reads as it did. -/
def indexKnownSpec : ChangeSpec := { name := "indexKnown", fn := fun _ => fun
  | [] => { results := [.lit (.bool true)], args := [] }
  | _ => none }
def indexKnownRow : OpenClaim := { program := "ytlkngpckibidlaa", sum := "01f7599293cde1cab9bbc840ff020d4e109f58443a868c36005426679e41670b", func := "sediment/sedimentlaw13.IndexKnown", spec := "indexKnown", inPlace := ["slices.overlaps[sediment/index.pair[sediment/gens.Gens]]"], unfollowed := true, recurses := true, apart := false }
def IndexKnownSaid : Prop := indexKnownRow.holds Try.pinned (OpenSpec.ofChange indexKnownSpec)

/-- ITS FALSE NEIGHBOUR: 'it returns false'. Refute it at one input. -/
def indexKnownWrong : ChangeSpec := { name := "indexKnown", fn := fun _ => fun
  | [] => { results := [.lit (.bool false)], args := [] }
  | _ => none }
def IndexKnownWrongFalsely : Prop := indexKnownRow.holds Try.pinned (OpenSpec.ofChange indexKnownWrong)

/-- 'sedimentlaw13.IndexRestores': WHATEVER THE INPUT: true; the input reads as it did. -/
def indexRestoresSpec : ChangeSpec := { name := "indexRestores", fn := fun _ => fun
  | [d1, d2, d3] => { results := [.lit (.bool true)], args := [d1, d2, d3] }
  | _ => none }
def indexRestoresRow : OpenClaim := { program := "ytlkngpckibidlaa", sum := "01f7599293cde1cab9bbc840ff020d4e109f58443a868c36005426679e41670b", func := "sediment/sedimentlaw13.IndexRestores", spec := "indexRestores", inPlace := ["slices.overlaps[sediment/index.pair[sediment/gens.Gens]]"], unfollowed := true, recurses := true, apart := false }
def IndexRestoresSaid : Prop := indexRestoresRow.holds Try.pinned (OpenSpec.ofChange indexRestoresSpec)

/-- ITS FALSE NEIGHBOUR: 'it returns false'. Refute it at one input. -/
def indexRestoresWrong : ChangeSpec := { name := "indexRestores", fn := fun _ => fun
  | [d1, d2, d3] => { results := [.lit (.bool false)], args := [d1, d2, d3] }
  | _ => none }
def IndexRestoresWrongFalsely : Prop := indexRestoresRow.holds Try.pinned (OpenSpec.ofChange indexRestoresWrong)

/- THE SECOND FORM. 'bulk': how many values and letters a reading holds, each counted each time it is reached (what is shared counts as often as it is met; a slice's spare places count too). A statement '..UptoSaid' is the law's where the arguments, and the package variables that the reading takes, are together of bulk at most 1048576: NARROWER than '..Said'. Prove '..Said' where nothing that the law and all that it calls make is longer than what came in: it says more and counts as full. Else prove '..UptoSaid'. A law counts once. -/
mutual
def uptoBulk {H : Type} : DataW H → Nat
  | .lit (.string bytes) => bytes.length + 1
  | .lit _ => 1
  | .nil => 1
  | .ptr d => uptoBulk d + 1
  | .slice elems spare => uptoBulkAll elems + uptoBulkAll spare + 1
  | .agg parts => uptoBulkAll parts + 1
  | .iface _ d => uptoBulk d + 1
  | .map entries => uptoBulkEntries entries + 1
  | .held _ => 1
def uptoBulkAll {H : Type} : List (DataW H) → Nat
  | [] => 0
  | d :: r => uptoBulk d + uptoBulkAll r
def uptoBulkEntries {H : Type} : List (Lit × DataW H) → Nat
  | [] => 0
  | x :: r => uptoBulkEntry x + uptoBulkEntries r
def uptoBulkEntry {H : Type} : Lit × DataW H → Nat
  | (.string bytes, d) => bytes.length + uptoBulk d + 1
  | (_, d) => uptoBulk d + 1
 end
def uptoSmall : (H : Type) → List (DataW H) → Bool := fun _ ds => decide (uptoBulkAll ds ≤ 1048576)
def OpenSpec.upto (s : _root_.Go.ChangeSpec) : _root_.Go.OpenSpec := { _root_.Go.OpenSpec.ofChange s with cond := some uptoSmall }

/-- 'sedimentlaw12.GensCompact', WHERE WHAT IT READS IS OF BULK AT MOST 1048576: true; the input reads as it did. -/
def gensCompactUptoRow : OpenClaim := { program := "ytlkngpckibidlaa", sum := "01f7599293cde1cab9bbc840ff020d4e109f58443a868c36005426679e41670b", func := "sediment/sedimentlaw12.GensCompact", spec := "gensCompact", unfollowed := true, recurses := true, apart := false, narrowed := true }
def GensCompactUptoSaid : Prop := gensCompactUptoRow.holds Try.pinned (OpenSpec.upto gensCompactSpec)

/-- 'sedimentlaw12.GensValue', WHERE WHAT IT READS IS OF BULK AT MOST 1048576: true; the input reads as it did. -/
def gensValueUptoRow : OpenClaim := { program := "ytlkngpckibidlaa", sum := "01f7599293cde1cab9bbc840ff020d4e109f58443a868c36005426679e41670b", func := "sediment/sedimentlaw12.GensValue", spec := "gensValue", unfollowed := true, recurses := true, apart := false, narrowed := true }
def GensValueUptoSaid : Prop := gensValueUptoRow.holds Try.pinned (OpenSpec.upto gensValueSpec)

/-- 'sedimentlaw12.GensPlays', WHERE WHAT IT READS IS OF BULK AT MOST 1048576: true; the input reads as it did. -/
def gensPlaysUptoRow : OpenClaim := { program := "ytlkngpckibidlaa", sum := "01f7599293cde1cab9bbc840ff020d4e109f58443a868c36005426679e41670b", func := "sediment/sedimentlaw12.GensPlays", spec := "gensPlays", unfollowed := true, recurses := true, apart := false, narrowed := true }
def GensPlaysUptoSaid : Prop := gensPlaysUptoRow.holds Try.pinned (OpenSpec.upto gensPlaysSpec)

/-- 'sedimentlaw12.GensBack', WHERE WHAT IT READS IS OF BULK AT MOST 1048576: true; the input reads as it did. -/
def gensBackUptoRow : OpenClaim := { program := "ytlkngpckibidlaa", sum := "01f7599293cde1cab9bbc840ff020d4e109f58443a868c36005426679e41670b", func := "sediment/sedimentlaw12.GensBack", spec := "gensBack", unfollowed := true, recurses := true, apart := false, narrowed := true }
def GensBackUptoSaid : Prop := gensBackUptoRow.holds Try.pinned (OpenSpec.upto gensBackSpec)

/-- 'sedimentlaw12.GensKnown', WHERE WHAT IT READS IS OF BULK AT MOST 1048576: true; the input reads as it did. -/
def gensKnownUptoRow : OpenClaim := { program := "ytlkngpckibidlaa", sum := "01f7599293cde1cab9bbc840ff020d4e109f58443a868c36005426679e41670b", func := "sediment/sedimentlaw12.GensKnown", spec := "gensKnown", unfollowed := true, recurses := true, apart := false, narrowed := true }
def GensKnownUptoSaid : Prop := gensKnownUptoRow.holds Try.pinned (OpenSpec.upto gensKnownSpec)

/-- 'sedimentlaw13.IndexFolds', WHERE WHAT IT READS IS OF BULK AT MOST 1048576: true; the input reads as it did. -/
def indexFoldsUptoRow : OpenClaim := { program := "ytlkngpckibidlaa", sum := "01f7599293cde1cab9bbc840ff020d4e109f58443a868c36005426679e41670b", func := "sediment/sedimentlaw13.IndexFolds", spec := "indexFolds", inPlace := ["slices.overlaps[sediment/index.pair[sediment/gens.Gens]]"], unfollowed := true, recurses := true, apart := false, narrowed := true }
def IndexFoldsUptoSaid : Prop := indexFoldsUptoRow.holds Try.pinned (OpenSpec.upto indexFoldsSpec)

/-- 'sedimentlaw13.IndexKnown', WHERE WHAT IT READS IS OF BULK AT MOST 1048576: true; the input reads as it did. -/
def indexKnownUptoRow : OpenClaim := { program := "ytlkngpckibidlaa", sum := "01f7599293cde1cab9bbc840ff020d4e109f58443a868c36005426679e41670b", func := "sediment/sedimentlaw13.IndexKnown", spec := "indexKnown", inPlace := ["slices.overlaps[sediment/index.pair[sediment/gens.Gens]]"], unfollowed := true, recurses := true, apart := false, narrowed := true }
def IndexKnownUptoSaid : Prop := indexKnownUptoRow.holds Try.pinned (OpenSpec.upto indexKnownSpec)

/-- 'sedimentlaw13.IndexRestores', WHERE WHAT IT READS IS OF BULK AT MOST 1048576: true; the input reads as it did. -/
def indexRestoresUptoRow : OpenClaim := { program := "ytlkngpckibidlaa", sum := "01f7599293cde1cab9bbc840ff020d4e109f58443a868c36005426679e41670b", func := "sediment/sedimentlaw13.IndexRestores", spec := "indexRestores", inPlace := ["slices.overlaps[sediment/index.pair[sediment/gens.Gens]]"], unfollowed := true, recurses := true, apart := false, narrowed := true }
def IndexRestoresUptoSaid : Prop := indexRestoresUptoRow.holds Try.pinned (OpenSpec.upto indexRestoresSpec)

end Rows
end Go.Proofs.Ytlkngpckibidlaa

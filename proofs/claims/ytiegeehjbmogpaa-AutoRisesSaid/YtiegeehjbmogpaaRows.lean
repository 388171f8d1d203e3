/-
  No cell of these rows narrows 'for every input' (looked for: loops, veiled, ifaces, maps, wideKeys, modest, calm, conditions, laid).
  DERIVED. THE GIVEN ROWS OF THIS SEAT. 3 by the template 'for every input the law returns true; each argument reads behind the call as it read before'; 0 by the template 'total and deterministic' (their statements: YtiegeehjbmogpaaTotals.lean).
  GIVEN WITH THE SEED: the statements are not yours to turn. If you find one false, say at which input.
  Laid BY PROGRAM, IN A SANDBOX (cutbox-rows.mjs): the forced cells as the released guide's own fill.sh prints them over the translation dfed9428032fa576… (all of the seat's roots in one cut). By AI agents, Wed Nov 11 2026. No macro, syntax, notation, axiom, sorry.
-/
import Derived.Test.YtiegeehjbmogpaaChecked
import GoSem.Claim
import GoSem.ClaimJoined
import GoSem.ClaimMapViews
import Derived.JoinedTies
import Derived.KernelRfl
namespace Go.Proofs.Ytiegeehjbmogpaa
/- THE CELL 'sum', in the pinned program and in every row, IS THE sha256 OF THE DUMP (.gsa) THAT YtiegeehjbmogpaaProg.lean LOADS. Nothing in Lean hashes anything: it is a label: what it is worth is what the hold of that sum in a sandbox is worth. -/
noncomputable def Try.pinned : Pinned := { name := "ytiegeehjbmogpaa", sum := "dfed9428032fa576834338670a6c28e0ab5ccb5a7922a5b3be376231dc60abf7", checked := Try.checked }
namespace Rows
def none {H : Type} : Left H := { results := [], args := [] }

/-- 'sedimentlaw28.AutoTells': WHATEVER THE INPUT: true; the input reads as it did. -/
def autoTellsSpec : ChangeSpec := { name := "autoTells", fn := fun _ => fun
  | [d1, d2, d3] => { results := [.lit (.bool true)], args := [d1, d2, d3] }
  | _ => none }
def autoTellsRow : OpenClaim := { program := "ytiegeehjbmogpaa", sum := "dfed9428032fa576834338670a6c28e0ab5ccb5a7922a5b3be376231dc60abf7", func := "sediment/sedimentlaw28.AutoTells", spec := "autoTells", unfollowed := true, recurses := true, apart := false }
def AutoTellsSaid : Prop := autoTellsRow.holds Try.pinned (OpenSpec.ofChange autoTellsSpec)

/-- ITS FALSE NEIGHBOUR: 'it returns false'. Refute it at one input. -/
def autoTellsWrong : ChangeSpec := { name := "autoTells", fn := fun _ => fun
  | [d1, d2, d3] => { results := [.lit (.bool false)], args := [d1, d2, d3] }
  | _ => none }
def AutoTellsWrongFalsely : Prop := autoTellsRow.holds Try.pinned (OpenSpec.ofChange autoTellsWrong)

/-- 'sedimentlaw28.AutoRises': WHATEVER THE INPUT: true; the input reads as it did. -/
def autoRisesSpec : ChangeSpec := { name := "autoRises", fn := fun _ => fun
  | [d1, d2, d3] => { results := [.lit (.bool true)], args := [d1, d2, d3] }
  | _ => none }
def autoRisesRow : OpenClaim := { program := "ytiegeehjbmogpaa", sum := "dfed9428032fa576834338670a6c28e0ab5ccb5a7922a5b3be376231dc60abf7", func := "sediment/sedimentlaw28.AutoRises", spec := "autoRises", unfollowed := true, recurses := true, apart := false }
def AutoRisesSaid : Prop := autoRisesRow.holds Try.pinned (OpenSpec.ofChange autoRisesSpec)

/-- ITS FALSE NEIGHBOUR: 'it returns false'. Refute it at one input. -/
def autoRisesWrong : ChangeSpec := { name := "autoRises", fn := fun _ => fun
  | [d1, d2, d3] => { results := [.lit (.bool false)], args := [d1, d2, d3] }
  | _ => none }
def AutoRisesWrongFalsely : Prop := autoRisesRow.holds Try.pinned (OpenSpec.ofChange autoRisesWrong)

/-- 'sedimentlaw28.AutoKnown': WHATEVER THE INPUT: true; the input reads as it did. -/
def autoKnownSpec : ChangeSpec := { name := "autoKnown", fn := fun _ => fun
  | [] => { results := [.lit (.bool true)], args := [] }
  | _ => none }
def autoKnownRow : OpenClaim := { program := "ytiegeehjbmogpaa", sum := "dfed9428032fa576834338670a6c28e0ab5ccb5a7922a5b3be376231dc60abf7", func := "sediment/sedimentlaw28.AutoKnown", spec := "autoKnown", unfollowed := true, recurses := true, apart := false }
def AutoKnownSaid : Prop := autoKnownRow.holds Try.pinned (OpenSpec.ofChange autoKnownSpec)

/-- ITS FALSE NEIGHBOUR: 'it returns false'. Refute it at one input. -/
def autoKnownWrong : ChangeSpec := { name := "autoKnown", fn := fun _ => fun
  | [] => { results := [.lit (.bool false)], args := [] }
  | _ => none }
def AutoKnownWrongFalsely : Prop := autoKnownRow.holds Try.pinned (OpenSpec.ofChange autoKnownWrong)

/- THE SECOND FORM. 'bulk': how many values and letters a reading holds, each counted each time it is reached (what is shared counts as often as it is met; a slice's spare places count too). A statement '..UptoSaid' is the law's where the arguments, and the package variables that the reading takes, are together of bulk at most 1048576: NARROWER than '..Said'. Prove '..Said' where nothing that the law and all that it calls make is longer than what came in: it says more and counts as full. Else prove '..UptoSaid'. A law counts once. -/
mutual
def uptoBulk {H : Type} : DataW H → Nat
  | .lit (.string bytes) => bytes.length + 1
  | .lit _ => 1
  | .nil => 1
  | .ptr d => uptoBulk d + 1
  | .slice elems spare => uptoBulkAll elems + uptoBulkAll spare + 1
  | .agg parts => uptoBulkAll parts + 1
  | .iface _ d => uptoBulk d + 1
  | .map entries => uptoBulkEntries entries + 1
  | .held _ => 1
def uptoBulkAll {H : Type} : List (DataW H) → Nat
  | [] => 0
  | d :: r => uptoBulk d + uptoBulkAll r
def uptoBulkEntries {H : Type} : List (Lit × DataW H) → Nat
  | [] => 0
  | x :: r => uptoBulkEntry x + uptoBulkEntries r
def uptoBulkEntry {H : Type} : Lit × DataW H → Nat
  | (.string bytes, d) => bytes.length + uptoBulk d + 1
  | (_, d) => uptoBulk d + 1
 end
def uptoSmall : (H : Type) → List (DataW H) → Bool := fun _ ds => decide (uptoBulkAll ds ≤ 1048576)
def OpenSpec.upto (s : _root_.Go.ChangeSpec) : _root_.Go.OpenSpec := { _root_.Go.OpenSpec.ofChange s with cond := some uptoSmall }

/-- 'sedimentlaw28.AutoTells', WHERE WHAT IT READS IS OF BULK AT MOST 1048576: true; the input reads as it did. -/
def autoTellsUptoRow : OpenClaim := { program := "ytiegeehjbmogpaa", sum := "dfed9428032fa576834338670a6c28e0ab5ccb5a7922a5b3be376231dc60abf7", func := "sediment/sedimentlaw28.AutoTells", spec := "autoTells", unfollowed := true, recurses := true, apart := false, narrowed := true }
def AutoTellsUptoSaid : Prop := autoTellsUptoRow.holds Try.pinned (OpenSpec.upto autoTellsSpec)

/-- 'sedimentlaw28.AutoRises', WHERE WHAT IT READS IS OF BULK AT MOST 1048576: true; the input reads as it did. -/
def autoRisesUptoRow : OpenClaim := { program := "ytiegeehjbmogpaa", sum := "dfed9428032fa576834338670a6c28e0ab5ccb5a7922a5b3be376231dc60abf7", func := "sediment/sedimentlaw28.AutoRises", spec := "autoRises", unfollowed := true, recurses := true, apart := false, narrowed := true }
def AutoRisesUptoSaid : Prop := autoRisesUptoRow.holds Try.pinned (OpenSpec.upto autoRisesSpec)

/-- 'sedimentlaw28.AutoKnown', WHERE WHAT IT READS IS OF BULK AT MOST 1048576: true; the input reads as it did. -/
def autoKnownUptoRow : OpenClaim := { program := "ytiegeehjbmogpaa", sum := "dfed9428032fa576834338670a6c28e0ab5ccb5a7922a5b3be376231dc60abf7", func := "sediment/sedimentlaw28.AutoKnown", spec := "autoKnown", unfollowed := true, recurses := true, apart := false, narrowed := true }
def AutoKnownUptoSaid : Prop := autoKnownUptoRow.holds Try.pinned (OpenSpec.upto autoKnownSpec)

end Rows
end Go.Proofs.Ytiegeehjbmogpaa

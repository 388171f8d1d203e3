/-
  DERIVED. GIVEN WITH THE SEED: THE CARDS: each row of YtcofhdoeaiknkaaGreatDoorRows.lean that lists a variable, with what it lists TIED to the program's text (the seventh form; the later family's looks); each row that meets fmt, with fmt's text TOLD by the authors' own Lean function (tested against real Go, not proved from fmt's source: count such statements apart). THE CARD IS WHAT COUNTS. Prove the row's statement (the work); the ties are given (YtcofhdoeaiknkaaGreatDoorTie.lean); close each card by the builder's one call (the guide's Derived/Test/ToyasCard.lean, 'card_holds'). Laid BY PROGRAM, IN A SANDBOX (cutbox-door.mjs). By AI agents, Wed Nov 11 2026. No macro, syntax, notation, axiom, sorry.
-/
import Derived.Test.YtcofhdoeaiknkaaGreatDoorRows
import GoSem.ClaimSeven
namespace Go.Proofs.YtcofhdoeaiknkaaGreatDoor
namespace Rows

/-- THE TIED CARD OF 'sedimentlaw33.LookKnown'. -/
def lookKnownCard : Claim7 := { stood := { row := lookKnownRow, standIns := [], harness := (true, "31e2600ad5b68deb123bcbc9f2bc48ecf587a6d84f0b0e7b66a42251ad208de9"), looks := true }, kinds := [], alts := [], laidByText := true, laidKinds := [.data, .data, .data], laidTests := true, laidLooks := .later }
def LookKnownCardSaid : Prop := Claim7.holds Tryz.pinned (.plain (OpenSpec.ofChange lookKnownSpec)) lookKnownCard

/-- THE SECOND FORM's CARD OF 'sedimentlaw33.LookKnown'. -/
def lookKnownUptoCard : Claim7 := { stood := { row := lookKnownUptoRow, standIns := [], harness := (true, "31e2600ad5b68deb123bcbc9f2bc48ecf587a6d84f0b0e7b66a42251ad208de9"), looks := true }, kinds := [], alts := [], laidByText := true, laidKinds := [.data, .data, .data], laidTests := true, laidLooks := .later }
def LookKnownUptoCardSaid : Prop := Claim7.holds Tryz.pinned (.plain (OpenSpec.upto lookKnownSpec)) lookKnownUptoCard
end Rows
end Go.Proofs.YtcofhdoeaiknkaaGreatDoor

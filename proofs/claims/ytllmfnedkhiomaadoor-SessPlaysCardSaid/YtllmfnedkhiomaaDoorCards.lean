/-
  DERIVED. GIVEN WITH THE SEED: THE CARDS: each row of YtllmfnedkhiomaaDoorRows.lean that lists a variable, with what it lists TIED to the program's text (the seventh form; the later family's looks); each row that meets fmt, with fmt's text TOLD by the authors' own Lean function (tested against real Go, not proved from fmt's source: count such statements apart). THE CARD IS WHAT COUNTS. Prove the row's statement (the work); the ties are given (YtllmfnedkhiomaaDoorTie.lean); close each card by the builder's one call (the guide's Derived/Test/ToyasCard.lean, 'card_holds'). Laid BY PROGRAM, IN A SANDBOX (cutbox-door.mjs). By AI agents, Wed Nov 11 2026. No macro, syntax, notation, axiom, sorry.
-/
import Derived.Test.YtllmfnedkhiomaaDoorRows
import GoSem.ClaimSeven
namespace Go.Proofs.YtllmfnedkhiomaaDoor
namespace Rows

/-- THE TIED CARD OF 'sedimentlaw21.SessFull'. -/
def sessFullCard : Claim7 := { stood := { row := sessFullRow, standIns := [], harness := (true, "f5f5b4067cc1166c06b0a681ea8803a1f5ef13a1c01b11cf7cef40b33494c2ad"), looks := false }, kinds := [], alts := [], laidByText := true, laidKinds := [.data, .data, .data], laidTests := true, laidLooks := .later }
def SessFullCardSaid : Prop := Claim7.holds Tryd.pinned (.plain (OpenSpec.ofChange sessFullSpec)) sessFullCard

/-- THE TIED CARD OF 'sedimentlaw21.SessPlays'. -/
def sessPlaysCard : Claim7 := { stood := { row := sessPlaysRow, standIns := [], harness := (true, "f5f5b4067cc1166c06b0a681ea8803a1f5ef13a1c01b11cf7cef40b33494c2ad"), looks := false }, kinds := [], alts := [], laidByText := true, laidKinds := [.data, .data, .data], laidTests := true, laidLooks := .later }
def SessPlaysCardSaid : Prop := Claim7.holds Tryd.pinned (.plain (OpenSpec.ofChange sessPlaysSpec)) sessPlaysCard

/-- THE SECOND FORM's CARD OF 'sedimentlaw21.SessFull'. -/
def sessFullUptoCard : Claim7 := { stood := { row := sessFullUptoRow, standIns := [], harness := (true, "f5f5b4067cc1166c06b0a681ea8803a1f5ef13a1c01b11cf7cef40b33494c2ad"), looks := false }, kinds := [], alts := [], laidByText := true, laidKinds := [.data, .data, .data], laidTests := true, laidLooks := .later }
def SessFullUptoCardSaid : Prop := Claim7.holds Tryd.pinned (.plain (OpenSpec.upto sessFullSpec)) sessFullUptoCard

/-- THE SECOND FORM's CARD OF 'sedimentlaw21.SessPlays'. -/
def sessPlaysUptoCard : Claim7 := { stood := { row := sessPlaysUptoRow, standIns := [], harness := (true, "f5f5b4067cc1166c06b0a681ea8803a1f5ef13a1c01b11cf7cef40b33494c2ad"), looks := false }, kinds := [], alts := [], laidByText := true, laidKinds := [.data, .data, .data], laidTests := true, laidLooks := .later }
def SessPlaysUptoCardSaid : Prop := Claim7.holds Tryd.pinned (.plain (OpenSpec.upto sessPlaysSpec)) sessPlaysUptoCard
end Rows
end Go.Proofs.YtllmfnedkhiomaaDoor

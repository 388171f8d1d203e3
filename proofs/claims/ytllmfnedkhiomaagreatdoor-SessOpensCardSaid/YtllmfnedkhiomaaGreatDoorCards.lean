/-
  DERIVED. GIVEN WITH THE SEED: THE CARDS: each row of YtllmfnedkhiomaaGreatDoorRows.lean that lists a variable, with what it lists TIED to the program's text (the seventh form; the later family's looks); each row that meets fmt, with fmt's text TOLD by the authors' own Lean function (tested against real Go, not proved from fmt's source: count such statements apart). THE CARD IS WHAT COUNTS. Prove the row's statement (the work); the ties are given (YtllmfnedkhiomaaGreatDoorTie.lean); close each card by the builder's one call (the guide's Derived/Test/ToyasCard.lean, 'card_holds'). Laid BY PROGRAM, IN A SANDBOX (cutbox-door.mjs). By AI agents, Wed Nov 11 2026. No macro, syntax, notation, axiom, sorry.
-/
import Derived.Test.YtllmfnedkhiomaaGreatDoorRows
import GoSem.ClaimSeven
namespace Go.Proofs.YtllmfnedkhiomaaGreatDoor
namespace Rows

/-- THE TIED CARD OF 'sedimentlaw21.SessOnce'. -/
def sessOnceCard : Claim7 := { stood := { row := sessOnceRow, standIns := [], harness := (true, "e955fe4fc004cc64451b24886a51b50ca7b5ad9bc50d62bfb85b541788bc552d"), looks := true }, kinds := [], alts := [], laidByText := true, laidKinds := [.data, .data, .data, .data, .sentinel, .sentinel, .pinned], laidTests := true, laidLooks := .later }
def SessOnceCardSaid : Prop := Claim7.holds Tryz.pinned (.plain (OpenSpec.ofChange sessOnceSpec)) sessOnceCard

/-- THE TIED CARD OF 'sedimentlaw21.SessOpens'. -/
def sessOpensCard : Claim7 := { stood := { row := sessOpensRow, standIns := [], harness := (true, "e955fe4fc004cc64451b24886a51b50ca7b5ad9bc50d62bfb85b541788bc552d"), looks := true }, kinds := [], alts := [], laidByText := true, laidKinds := [.data, .data, .data, .data, .sentinel, .sentinel, .pinned], laidTests := true, laidLooks := .later }
def SessOpensCardSaid : Prop := Claim7.holds Tryz.pinned (.plain (OpenSpec.ofChange sessOpensSpec)) sessOpensCard

/-- THE SECOND FORM's CARD OF 'sedimentlaw21.SessOnce'. -/
def sessOnceUptoCard : Claim7 := { stood := { row := sessOnceUptoRow, standIns := [], harness := (true, "e955fe4fc004cc64451b24886a51b50ca7b5ad9bc50d62bfb85b541788bc552d"), looks := true }, kinds := [], alts := [], laidByText := true, laidKinds := [.data, .data, .data, .data, .sentinel, .sentinel, .pinned], laidTests := true, laidLooks := .later }
def SessOnceUptoCardSaid : Prop := Claim7.holds Tryz.pinned (.plain (OpenSpec.upto sessOnceSpec)) sessOnceUptoCard

/-- THE SECOND FORM's CARD OF 'sedimentlaw21.SessOpens'. -/
def sessOpensUptoCard : Claim7 := { stood := { row := sessOpensUptoRow, standIns := [], harness := (true, "e955fe4fc004cc64451b24886a51b50ca7b5ad9bc50d62bfb85b541788bc552d"), looks := true }, kinds := [], alts := [], laidByText := true, laidKinds := [.data, .data, .data, .data, .sentinel, .sentinel, .pinned], laidTests := true, laidLooks := .later }
def SessOpensUptoCardSaid : Prop := Claim7.holds Tryz.pinned (.plain (OpenSpec.upto sessOpensSpec)) sessOpensUptoCard
end Rows
end Go.Proofs.YtllmfnedkhiomaaGreatDoor

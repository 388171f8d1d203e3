/-
  DERIVED. GIVEN WITH THE SEED: THE CARDS: each row of YtnhnhiieomhgfaaGreatDoorRows.lean that lists a variable, with what it lists TIED to the program's text (the seventh form; the later family's looks); each row that meets fmt, with fmt's text TOLD by the authors' own Lean function (tested against real Go, not proved from fmt's source: count such statements apart). THE CARD IS WHAT COUNTS. Prove the row's statement (the work); the ties are given (YtnhnhiieomhgfaaGreatDoorTie.lean); close each card by the builder's one call (the guide's Derived/Test/ToyasCard.lean, 'card_holds'). Laid BY PROGRAM, IN A SANDBOX (cutbox-door.mjs). By AI agents, Wed Nov 11 2026. No macro, syntax, notation, axiom, sorry.
-/
import Derived.Test.YtnhnhiieomhgfaaGreatDoorRows
import GoSem.ClaimSeven
namespace Go.Proofs.YtnhnhiieomhgfaaGreatDoor
namespace Rows

/-- THE TIED CARD OF 'sedimentlaw21.SessKnown'. -/
def sessKnownCard : Claim7 := { stood := { row := sessKnownRow, standIns := [], harness := (true, "ce5a4ef694839ab1d8d7a2feb80aac3a65fe0099761a5ecbc90b323278ebf4a5"), looks := true }, kinds := [], alts := [], laidByText := true, laidKinds := [.data, .data, .data, .data, .sentinel, .sentinel, .pinned], laidTests := true, laidLooks := .later }
def SessKnownCardSaid : Prop := Claim7.holds Tryz.pinned (.plain (OpenSpec.ofChange sessKnownSpec)) sessKnownCard

/-- THE TIED CARD OF 'sedimentlaw06.SnapKnown'. -/
def snapKnownCard : Claim7 := { stood := { row := snapKnownRow, standIns := [], harness := (true, "ce5a4ef694839ab1d8d7a2feb80aac3a65fe0099761a5ecbc90b323278ebf4a5"), looks := true }, kinds := [], alts := [], laidByText := true, laidKinds := [.data, .data, .data, .data, .sentinel, .sentinel, .pinned], laidTests := true, laidLooks := .later }
def SnapKnownCardSaid : Prop := Claim7.holds Tryz.pinned (.plain (OpenSpec.ofChange snapKnownSpec)) snapKnownCard

/-- THE TIED CARD OF 'sedimentlaw05.SegKnown'. -/
def segKnownCard : Claim7 := { stood := { row := segKnownRow, standIns := [], harness := (true, "ce5a4ef694839ab1d8d7a2feb80aac3a65fe0099761a5ecbc90b323278ebf4a5"), looks := true }, kinds := [], alts := [], laidByText := true, laidKinds := [.data, .data, .data, .data, .sentinel, .sentinel, .pinned], laidTests := true, laidLooks := .later }
def SegKnownCardSaid : Prop := Claim7.holds Tryz.pinned (.plain (OpenSpec.ofChange segKnownSpec)) segKnownCard

/-- THE TIED CARD OF 'sedimentlaw24.WalKnown'. -/
def walKnownCard : Claim7 := { stood := { row := walKnownRow, standIns := [], harness := (true, "ce5a4ef694839ab1d8d7a2feb80aac3a65fe0099761a5ecbc90b323278ebf4a5"), looks := true }, kinds := [], alts := [], laidByText := true, laidKinds := [.data, .data, .data, .data, .sentinel, .sentinel, .pinned], laidTests := true, laidLooks := .later }
def WalKnownCardSaid : Prop := Claim7.holds Tryz.pinned (.plain (OpenSpec.ofChange walKnownSpec)) walKnownCard

/-- THE SECOND FORM's CARD OF 'sedimentlaw21.SessKnown'. -/
def sessKnownUptoCard : Claim7 := { stood := { row := sessKnownUptoRow, standIns := [], harness := (true, "ce5a4ef694839ab1d8d7a2feb80aac3a65fe0099761a5ecbc90b323278ebf4a5"), looks := true }, kinds := [], alts := [], laidByText := true, laidKinds := [.data, .data, .data, .data, .sentinel, .sentinel, .pinned], laidTests := true, laidLooks := .later }
def SessKnownUptoCardSaid : Prop := Claim7.holds Tryz.pinned (.plain (OpenSpec.upto sessKnownSpec)) sessKnownUptoCard

/-- THE SECOND FORM's CARD OF 'sedimentlaw06.SnapKnown'. -/
def snapKnownUptoCard : Claim7 := { stood := { row := snapKnownUptoRow, standIns := [], harness := (true, "ce5a4ef694839ab1d8d7a2feb80aac3a65fe0099761a5ecbc90b323278ebf4a5"), looks := true }, kinds := [], alts := [], laidByText := true, laidKinds := [.data, .data, .data, .data, .sentinel, .sentinel, .pinned], laidTests := true, laidLooks := .later }
def SnapKnownUptoCardSaid : Prop := Claim7.holds Tryz.pinned (.plain (OpenSpec.upto snapKnownSpec)) snapKnownUptoCard

/-- THE SECOND FORM's CARD OF 'sedimentlaw05.SegKnown'. -/
def segKnownUptoCard : Claim7 := { stood := { row := segKnownUptoRow, standIns := [], harness := (true, "ce5a4ef694839ab1d8d7a2feb80aac3a65fe0099761a5ecbc90b323278ebf4a5"), looks := true }, kinds := [], alts := [], laidByText := true, laidKinds := [.data, .data, .data, .data, .sentinel, .sentinel, .pinned], laidTests := true, laidLooks := .later }
def SegKnownUptoCardSaid : Prop := Claim7.holds Tryz.pinned (.plain (OpenSpec.upto segKnownSpec)) segKnownUptoCard

/-- THE SECOND FORM's CARD OF 'sedimentlaw24.WalKnown'. -/
def walKnownUptoCard : Claim7 := { stood := { row := walKnownUptoRow, standIns := [], harness := (true, "ce5a4ef694839ab1d8d7a2feb80aac3a65fe0099761a5ecbc90b323278ebf4a5"), looks := true }, kinds := [], alts := [], laidByText := true, laidKinds := [.data, .data, .data, .data, .sentinel, .sentinel, .pinned], laidTests := true, laidLooks := .later }
def WalKnownUptoCardSaid : Prop := Claim7.holds Tryz.pinned (.plain (OpenSpec.upto walKnownSpec)) walKnownUptoCard
end Rows
end Go.Proofs.YtnhnhiieomhgfaaGreatDoor

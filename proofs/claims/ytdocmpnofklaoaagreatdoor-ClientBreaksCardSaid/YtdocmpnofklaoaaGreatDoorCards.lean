/-
  DERIVED. GIVEN WITH THE SEED: THE CARDS: each row of YtdocmpnofklaoaaGreatDoorRows.lean that lists a variable, with what it lists TIED to the program's text (the seventh form; the later family's looks); each row that meets fmt, with fmt's text TOLD by the authors' own Lean function (tested against real Go, not proved from fmt's source: count such statements apart). THE CARD IS WHAT COUNTS. Prove the row's statement (the work); the ties are given (YtdocmpnofklaoaaGreatDoorTie.lean); close each card by the builder's one call (the guide's Derived/Test/ToyasCard.lean, 'card_holds'). Laid BY PROGRAM, IN A SANDBOX (cutbox-door.mjs). By AI agents, Wed Nov 11 2026. No macro, syntax, notation, axiom, sorry.
-/
import Derived.Test.YtdocmpnofklaoaaGreatDoorRows
import GoSem.ClaimSeven
namespace Go.Proofs.YtdocmpnofklaoaaGreatDoor
namespace Rows

/-- THE TIED CARD OF 'spindlelaw16.ClientBreaks'. -/
def clientBreaksCard : Claim7 := { stood := { row := clientBreaksRow, standIns := [], harness := (true, "5e0b35293431ce1554fe411731df603b7ea21d03f6314a035c6512ad19db6b66"), looks := true }, kinds := [], alts := [], laidByText := true, laidKinds := [.data, .pinned], laidTests := true, laidLooks := .later }
def ClientBreaksCardSaid : Prop := Claim7.holds Tryz.pinned (.plain (OpenSpec.ofChange clientBreaksSpec)) clientBreaksCard

/-- THE TIED CARD OF 'spindlelaw22.TracePieces'. -/
def tracePiecesCard : Claim7 := { stood := { row := tracePiecesRow, standIns := [], harness := (true, "5e0b35293431ce1554fe411731df603b7ea21d03f6314a035c6512ad19db6b66"), looks := true }, kinds := [], alts := [], laidByText := true, laidKinds := [.data, .data, .data], laidTests := true, laidLooks := .later }
def TracePiecesCardSaid : Prop := Claim7.holds Tryz.pinned (.plain (OpenSpec.ofChange tracePiecesSpec)) tracePiecesCard

/-- THE TIED CARD OF 'spindlelaw16.ClientPlays'. -/
def clientPlaysCard : Claim7 := { stood := { row := clientPlaysRow, standIns := [], harness := (true, "5e0b35293431ce1554fe411731df603b7ea21d03f6314a035c6512ad19db6b66"), looks := true }, kinds := [], alts := [], laidByText := true, laidKinds := [.data, .pinned], laidTests := true, laidLooks := .later }
def ClientPlaysCardSaid : Prop := Claim7.holds Tryz.pinned (.plain (OpenSpec.ofChange clientPlaysSpec)) clientPlaysCard

/-- THE TIED CARD OF 'spindlelaw16.ClientPieces'. -/
def clientPiecesCard : Claim7 := { stood := { row := clientPiecesRow, standIns := [], harness := (true, "5e0b35293431ce1554fe411731df603b7ea21d03f6314a035c6512ad19db6b66"), looks := true }, kinds := [], alts := [], laidByText := true, laidKinds := [.data, .pinned], laidTests := true, laidLooks := .later }
def ClientPiecesCardSaid : Prop := Claim7.holds Tryz.pinned (.plain (OpenSpec.ofChange clientPiecesSpec)) clientPiecesCard

/-- THE TIED CARD OF 'spindlelaw16.ClientGathers'. -/
def clientGathersCard : Claim7 := { stood := { row := clientGathersRow, standIns := [], harness := (true, "5e0b35293431ce1554fe411731df603b7ea21d03f6314a035c6512ad19db6b66"), looks := true }, kinds := [], alts := [], laidByText := true, laidKinds := [.data, .pinned], laidTests := true, laidLooks := .later }
def ClientGathersCardSaid : Prop := Claim7.holds Tryz.pinned (.plain (OpenSpec.ofChange clientGathersSpec)) clientGathersCard

/-- THE TIED CARD OF 'spindlelaw16.ClientOwn'. -/
def clientOwnCard : Claim7 := { stood := { row := clientOwnRow, standIns := [], harness := (true, "5e0b35293431ce1554fe411731df603b7ea21d03f6314a035c6512ad19db6b66"), looks := true }, kinds := [], alts := [], laidByText := true, laidKinds := [.data, .pinned], laidTests := true, laidLooks := .later }
def ClientOwnCardSaid : Prop := Claim7.holds Tryz.pinned (.plain (OpenSpec.ofChange clientOwnSpec)) clientOwnCard

/-- THE TIED CARD OF 'spindlelaw16.ClientNobody'. -/
def clientNobodyCard : Claim7 := { stood := { row := clientNobodyRow, standIns := [], harness := (true, "5e0b35293431ce1554fe411731df603b7ea21d03f6314a035c6512ad19db6b66"), looks := true }, kinds := [], alts := [], laidByText := true, laidKinds := [.data, .pinned], laidTests := true, laidLooks := .later }
def ClientNobodyCardSaid : Prop := Claim7.holds Tryz.pinned (.plain (OpenSpec.ofChange clientNobodySpec)) clientNobodyCard

/-- THE TIED CARD OF 'spindlelaw16.ClientSays'. -/
def clientSaysCard : Claim7 := { stood := { row := clientSaysRow, standIns := [], harness := (true, "5e0b35293431ce1554fe411731df603b7ea21d03f6314a035c6512ad19db6b66"), looks := true }, kinds := [], alts := [], laidByText := true, laidKinds := [.data, .pinned], laidTests := true, laidLooks := .later }
def ClientSaysCardSaid : Prop := Claim7.holds Tryz.pinned (.plain (OpenSpec.ofChange clientSaysSpec)) clientSaysCard

/-- THE SECOND FORM's CARD OF 'spindlelaw16.ClientBreaks'. -/
def clientBreaksUptoCard : Claim7 := { stood := { row := clientBreaksUptoRow, standIns := [], harness := (true, "5e0b35293431ce1554fe411731df603b7ea21d03f6314a035c6512ad19db6b66"), looks := true }, kinds := [], alts := [], laidByText := true, laidKinds := [.data, .pinned], laidTests := true, laidLooks := .later }
def ClientBreaksUptoCardSaid : Prop := Claim7.holds Tryz.pinned (.plain (OpenSpec.upto clientBreaksSpec)) clientBreaksUptoCard

/-- THE SECOND FORM's CARD OF 'spindlelaw22.TracePieces'. -/
def tracePiecesUptoCard : Claim7 := { stood := { row := tracePiecesUptoRow, standIns := [], harness := (true, "5e0b35293431ce1554fe411731df603b7ea21d03f6314a035c6512ad19db6b66"), looks := true }, kinds := [], alts := [], laidByText := true, laidKinds := [.data, .data, .data], laidTests := true, laidLooks := .later }
def TracePiecesUptoCardSaid : Prop := Claim7.holds Tryz.pinned (.plain (OpenSpec.upto tracePiecesSpec)) tracePiecesUptoCard

/-- THE SECOND FORM's CARD OF 'spindlelaw16.ClientPlays'. -/
def clientPlaysUptoCard : Claim7 := { stood := { row := clientPlaysUptoRow, standIns := [], harness := (true, "5e0b35293431ce1554fe411731df603b7ea21d03f6314a035c6512ad19db6b66"), looks := true }, kinds := [], alts := [], laidByText := true, laidKinds := [.data, .pinned], laidTests := true, laidLooks := .later }
def ClientPlaysUptoCardSaid : Prop := Claim7.holds Tryz.pinned (.plain (OpenSpec.upto clientPlaysSpec)) clientPlaysUptoCard

/-- THE SECOND FORM's CARD OF 'spindlelaw16.ClientPieces'. -/
def clientPiecesUptoCard : Claim7 := { stood := { row := clientPiecesUptoRow, standIns := [], harness := (true, "5e0b35293431ce1554fe411731df603b7ea21d03f6314a035c6512ad19db6b66"), looks := true }, kinds := [], alts := [], laidByText := true, laidKinds := [.data, .pinned], laidTests := true, laidLooks := .later }
def ClientPiecesUptoCardSaid : Prop := Claim7.holds Tryz.pinned (.plain (OpenSpec.upto clientPiecesSpec)) clientPiecesUptoCard

/-- THE SECOND FORM's CARD OF 'spindlelaw16.ClientGathers'. -/
def clientGathersUptoCard : Claim7 := { stood := { row := clientGathersUptoRow, standIns := [], harness := (true, "5e0b35293431ce1554fe411731df603b7ea21d03f6314a035c6512ad19db6b66"), looks := true }, kinds := [], alts := [], laidByText := true, laidKinds := [.data, .pinned], laidTests := true, laidLooks := .later }
def ClientGathersUptoCardSaid : Prop := Claim7.holds Tryz.pinned (.plain (OpenSpec.upto clientGathersSpec)) clientGathersUptoCard

/-- THE SECOND FORM's CARD OF 'spindlelaw16.ClientOwn'. -/
def clientOwnUptoCard : Claim7 := { stood := { row := clientOwnUptoRow, standIns := [], harness := (true, "5e0b35293431ce1554fe411731df603b7ea21d03f6314a035c6512ad19db6b66"), looks := true }, kinds := [], alts := [], laidByText := true, laidKinds := [.data, .pinned], laidTests := true, laidLooks := .later }
def ClientOwnUptoCardSaid : Prop := Claim7.holds Tryz.pinned (.plain (OpenSpec.upto clientOwnSpec)) clientOwnUptoCard

/-- THE SECOND FORM's CARD OF 'spindlelaw16.ClientNobody'. -/
def clientNobodyUptoCard : Claim7 := { stood := { row := clientNobodyUptoRow, standIns := [], harness := (true, "5e0b35293431ce1554fe411731df603b7ea21d03f6314a035c6512ad19db6b66"), looks := true }, kinds := [], alts := [], laidByText := true, laidKinds := [.data, .pinned], laidTests := true, laidLooks := .later }
def ClientNobodyUptoCardSaid : Prop := Claim7.holds Tryz.pinned (.plain (OpenSpec.upto clientNobodySpec)) clientNobodyUptoCard

/-- THE SECOND FORM's CARD OF 'spindlelaw16.ClientSays'. -/
def clientSaysUptoCard : Claim7 := { stood := { row := clientSaysUptoRow, standIns := [], harness := (true, "5e0b35293431ce1554fe411731df603b7ea21d03f6314a035c6512ad19db6b66"), looks := true }, kinds := [], alts := [], laidByText := true, laidKinds := [.data, .pinned], laidTests := true, laidLooks := .later }
def ClientSaysUptoCardSaid : Prop := Claim7.holds Tryz.pinned (.plain (OpenSpec.upto clientSaysSpec)) clientSaysUptoCard
end Rows
end Go.Proofs.YtdocmpnofklaoaaGreatDoor

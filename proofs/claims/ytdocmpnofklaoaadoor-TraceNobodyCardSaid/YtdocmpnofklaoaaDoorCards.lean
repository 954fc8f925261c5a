/-
  DERIVED. GIVEN WITH THE SEED: THE CARDS: each row of YtdocmpnofklaoaaDoorRows.lean that lists a variable, with what it lists TIED to the program's text (the seventh form; the later family's looks); each row that meets fmt, with fmt's text TOLD by the authors' own Lean function (tested against real Go, not proved from fmt's source: count such statements apart). THE CARD IS WHAT COUNTS. Prove the row's statement (the work); the ties are given (YtdocmpnofklaoaaDoorTie.lean); close each card by the builder's one call (the guide's Derived/Test/ToyasCard.lean, 'card_holds'). Laid BY PROGRAM, IN A SANDBOX (cutbox-door.mjs). By AI agents, Wed Nov 11 2026. No macro, syntax, notation, axiom, sorry.
-/
import Derived.Test.YtdocmpnofklaoaaDoorRows
import GoSem.ClaimSeven
namespace Go.Proofs.YtdocmpnofklaoaaDoor
namespace Rows

/-- THE TIED CARD OF 'spindlelaw22.TraceNobody'. -/
def traceNobodyCard : Claim7 := { stood := { row := traceNobodyRow, standIns := [], harness := (true, "792a317f535acd6c682ad5c5c32c61b11fe91c05107624f00eda2dcd280c7482"), looks := false }, kinds := [], alts := [], laidByText := true, laidKinds := [.data, .data, .data], laidTests := true, laidLooks := .later }
def TraceNobodyCardSaid : Prop := Claim7.holds Tryd.pinned (.plain (OpenSpec.ofChange traceNobodySpec)) traceNobodyCard

/-- THE SECOND FORM's CARD OF 'spindlelaw22.TraceNobody'. -/
def traceNobodyUptoCard : Claim7 := { stood := { row := traceNobodyUptoRow, standIns := [], harness := (true, "792a317f535acd6c682ad5c5c32c61b11fe91c05107624f00eda2dcd280c7482"), looks := false }, kinds := [], alts := [], laidByText := true, laidKinds := [.data, .data, .data], laidTests := true, laidLooks := .later }
def TraceNobodyUptoCardSaid : Prop := Claim7.holds Tryd.pinned (.plain (OpenSpec.upto traceNobodySpec)) traceNobodyUptoCard
end Rows
end Go.Proofs.YtdocmpnofklaoaaDoor

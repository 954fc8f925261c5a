/-
  DERIVED. GIVEN WITH THE SEED: THE CARDS: each row of YtfambljbjhiinaaGreatDoorRows.lean that lists a variable, with what it lists TIED to the program's text (the seventh form; the later family's looks); each row that meets fmt, with fmt's text TOLD by the authors' own Lean function (tested against real Go, not proved from fmt's source: count such statements apart). THE CARD IS WHAT COUNTS. Prove the row's statement (the work); the ties are given (YtfambljbjhiinaaGreatDoorTie.lean); close each card by the builder's one call (the guide's Derived/Test/ToyasCard.lean, 'card_holds'). Laid BY PROGRAM, IN A SANDBOX (cutbox-door.mjs). By AI agents, Wed Nov 11 2026. No macro, syntax, notation, axiom, sorry.
-/
import Derived.Test.YtfambljbjhiinaaGreatDoorRows
import GoSem.ClaimSeven
namespace Go.Proofs.YtfambljbjhiinaaGreatDoor
namespace Rows

/-- THE TIED CARD OF 'spindlelaw23.CopierNobody'. -/
def copierNobodyCard : Claim7 := { stood := { row := copierNobodyRow, standIns := [], harness := (true, "9ac7d89df44be92a968d08839fba41cf1d1fde5f6daf76c92d63c39a4e109e08"), looks := true }, kinds := [], alts := [], laidByText := true, laidKinds := [.data, .pinned], laidTests := true, laidLooks := .later }
def CopierNobodyCardSaid : Prop := Claim7.holds Tryz.pinned (.plain (OpenSpec.ofChange copierNobodySpec)) copierNobodyCard

/-- THE SECOND FORM's CARD OF 'spindlelaw23.CopierNobody'. -/
def copierNobodyUptoCard : Claim7 := { stood := { row := copierNobodyUptoRow, standIns := [], harness := (true, "9ac7d89df44be92a968d08839fba41cf1d1fde5f6daf76c92d63c39a4e109e08"), looks := true }, kinds := [], alts := [], laidByText := true, laidKinds := [.data, .pinned], laidTests := true, laidLooks := .later }
def CopierNobodyUptoCardSaid : Prop := Claim7.holds Tryz.pinned (.plain (OpenSpec.upto copierNobodySpec)) copierNobodyUptoCard
end Rows
end Go.Proofs.YtfambljbjhiinaaGreatDoor

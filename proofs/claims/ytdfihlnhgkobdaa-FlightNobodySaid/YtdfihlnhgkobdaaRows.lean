/-
  No cell of these rows narrows 'for every input' (looked for: loops, veiled, ifaces, maps, wideKeys, modest, calm, conditions, laid).
  DERIVED. THE GIVEN ROWS OF THIS SEAT. 7 by the template 'for every input the law returns true; each argument reads behind the call as it read before'; 0 by the template 'total and deterministic' (their statements: YtdfihlnhgkobdaaTotals.lean).
  GIVEN WITH THE SEED: the statements are not yours to turn. If you find one false, say at which input.
  Laid BY PROGRAM, IN A SANDBOX (cutbox-rows.mjs): the forced cells as the released guide's own fill.sh prints them over the translation a22d832174d4e4bb… (all of the seat's roots in one cut). By AI agents, Wed Nov 11 2026. No macro, syntax, notation, axiom, sorry.
-/
import Derived.Test.YtdfihlnhgkobdaaChecked
import GoSem.Claim
import GoSem.ClaimJoined
import GoSem.ClaimMapViews
import Derived.JoinedTies
import Derived.KernelRfl
namespace Go.Proofs.Ytdfihlnhgkobdaa
/- THE CELL 'sum', in the pinned program and in every row, IS THE sha256 OF THE DUMP (.gsa) THAT YtdfihlnhgkobdaaProg.lean LOADS. Nothing in Lean hashes anything: it is a label: what it is worth is what the hold of that sum in a sandbox is worth. -/
noncomputable def Try.pinned : Pinned := { name := "ytdfihlnhgkobdaa", sum := "a22d832174d4e4bbd8d5c840bbee4ac3737155a4ce099432964ba3bccb275ffd", checked := Try.checked }
namespace Rows
def none {H : Type} : Left H := { results := [], args := [] }

/-- 'spindlelaw13.FlightOnce': WHATEVER THE INPUT: true; the input reads as it did. -/
def flightOnceSpec : ChangeSpec := { name := "flightOnce", fn := fun _ => fun
  | [d1, d2] => { results := [.lit (.bool true)], args := [d1, d2] }
  | _ => none }
def flightOnceRow : OpenClaim := { program := "ytdfihlnhgkobdaa", sum := "a22d832174d4e4bbd8d5c840bbee4ac3737155a4ce099432964ba3bccb275ffd", func := "spindle/spindlelaw13.FlightOnce", spec := "flightOnce", apart := false }
def FlightOnceSaid : Prop := flightOnceRow.holds Try.pinned (OpenSpec.ofChange flightOnceSpec)

/-- ITS FALSE NEIGHBOUR: 'it returns false'. Refute it at one input. -/
def flightOnceWrong : ChangeSpec := { name := "flightOnce", fn := fun _ => fun
  | [d1, d2] => { results := [.lit (.bool false)], args := [d1, d2] }
  | _ => none }
def FlightOnceWrongFalsely : Prop := flightOnceRow.holds Try.pinned (OpenSpec.ofChange flightOnceWrong)

/-- 'spindlelaw13.FlightMakes': WHATEVER THE INPUT: true; the input reads as it did. -/
def flightMakesSpec : ChangeSpec := { name := "flightMakes", fn := fun _ => fun
  | [d] => { results := [.lit (.bool true)], args := [d] }
  | _ => none }
def flightMakesRow : OpenClaim := { program := "ytdfihlnhgkobdaa", sum := "a22d832174d4e4bbd8d5c840bbee4ac3737155a4ce099432964ba3bccb275ffd", func := "spindle/spindlelaw13.FlightMakes", spec := "flightMakes", unfollowed := true, recurses := true, apart := false }
def FlightMakesSaid : Prop := flightMakesRow.holds Try.pinned (OpenSpec.ofChange flightMakesSpec)

/-- ITS FALSE NEIGHBOUR: 'it returns false'. Refute it at one input. -/
def flightMakesWrong : ChangeSpec := { name := "flightMakes", fn := fun _ => fun
  | [d] => { results := [.lit (.bool false)], args := [d] }
  | _ => none }
def FlightMakesWrongFalsely : Prop := flightMakesRow.holds Try.pinned (OpenSpec.ofChange flightMakesWrong)

/-- 'spindlelaw13.FlightMoves': WHATEVER THE INPUT: true; the input reads as it did. -/
def flightMovesSpec : ChangeSpec := { name := "flightMoves", fn := fun _ => fun
  | [d1, d2] => { results := [.lit (.bool true)], args := [d1, d2] }
  | _ => none }
def flightMovesRow : OpenClaim := { program := "ytdfihlnhgkobdaa", sum := "a22d832174d4e4bbd8d5c840bbee4ac3737155a4ce099432964ba3bccb275ffd", func := "spindle/spindlelaw13.FlightMoves", spec := "flightMoves", unfollowed := true, recurses := true, apart := false }
def FlightMovesSaid : Prop := flightMovesRow.holds Try.pinned (OpenSpec.ofChange flightMovesSpec)

/-- ITS FALSE NEIGHBOUR: 'it returns false'. Refute it at one input. -/
def flightMovesWrong : ChangeSpec := { name := "flightMoves", fn := fun _ => fun
  | [d1, d2] => { results := [.lit (.bool false)], args := [d1, d2] }
  | _ => none }
def FlightMovesWrongFalsely : Prop := flightMovesRow.holds Try.pinned (OpenSpec.ofChange flightMovesWrong)

/-- 'spindlelaw13.FlightTells': WHATEVER THE INPUT: true; the input reads as it did. -/
def flightTellsSpec : ChangeSpec := { name := "flightTells", fn := fun _ => fun
  | [d1, d2] => { results := [.lit (.bool true)], args := [d1, d2] }
  | _ => none }
def flightTellsRow : OpenClaim := { program := "ytdfihlnhgkobdaa", sum := "a22d832174d4e4bbd8d5c840bbee4ac3737155a4ce099432964ba3bccb275ffd", func := "spindle/spindlelaw13.FlightTells", spec := "flightTells", unfollowed := true, recurses := true, apart := false }
def FlightTellsSaid : Prop := flightTellsRow.holds Try.pinned (OpenSpec.ofChange flightTellsSpec)

/-- ITS FALSE NEIGHBOUR: 'it returns false'. Refute it at one input. -/
def flightTellsWrong : ChangeSpec := { name := "flightTells", fn := fun _ => fun
  | [d1, d2] => { results := [.lit (.bool false)], args := [d1, d2] }
  | _ => none }
def FlightTellsWrongFalsely : Prop := flightTellsRow.holds Try.pinned (OpenSpec.ofChange flightTellsWrong)

/-- 'spindlelaw13.FlightAll': WHATEVER THE INPUT: true; the input reads as it did. -/
def flightAllSpec : ChangeSpec := { name := "flightAll", fn := fun _ => fun
  | [d1, d2] => { results := [.lit (.bool true)], args := [d1, d2] }
  | _ => none }
def flightAllRow : OpenClaim := { program := "ytdfihlnhgkobdaa", sum := "a22d832174d4e4bbd8d5c840bbee4ac3737155a4ce099432964ba3bccb275ffd", func := "spindle/spindlelaw13.FlightAll", spec := "flightAll", unfollowed := true, recurses := true, apart := false }
def FlightAllSaid : Prop := flightAllRow.holds Try.pinned (OpenSpec.ofChange flightAllSpec)

/-- ITS FALSE NEIGHBOUR: 'it returns false'. Refute it at one input. -/
def flightAllWrong : ChangeSpec := { name := "flightAll", fn := fun _ => fun
  | [d1, d2] => { results := [.lit (.bool false)], args := [d1, d2] }
  | _ => none }
def FlightAllWrongFalsely : Prop := flightAllRow.holds Try.pinned (OpenSpec.ofChange flightAllWrong)

/-- 'spindlelaw13.FlightRanges': WHATEVER THE INPUT: true; the input reads as it did. -/
def flightRangesSpec : ChangeSpec := { name := "flightRanges", fn := fun _ => fun
  | [d1, d2, d3] => { results := [.lit (.bool true)], args := [d1, d2, d3] }
  | _ => none }
def flightRangesRow : OpenClaim := { program := "ytdfihlnhgkobdaa", sum := "a22d832174d4e4bbd8d5c840bbee4ac3737155a4ce099432964ba3bccb275ffd", func := "spindle/spindlelaw13.FlightRanges", spec := "flightRanges", unfollowed := true, recurses := true, apart := false }
def FlightRangesSaid : Prop := flightRangesRow.holds Try.pinned (OpenSpec.ofChange flightRangesSpec)

/-- ITS FALSE NEIGHBOUR: 'it returns false'. Refute it at one input. -/
def flightRangesWrong : ChangeSpec := { name := "flightRanges", fn := fun _ => fun
  | [d1, d2, d3] => { results := [.lit (.bool false)], args := [d1, d2, d3] }
  | _ => none }
def FlightRangesWrongFalsely : Prop := flightRangesRow.holds Try.pinned (OpenSpec.ofChange flightRangesWrong)

/-- 'spindlelaw13.FlightNobody': WHATEVER THE INPUT: true; the input reads as it did. -/
def flightNobodySpec : ChangeSpec := { name := "flightNobody", fn := fun _ => fun
  | [d] => { results := [.lit (.bool true)], args := [d] }
  | _ => none }
def flightNobodyRow : OpenClaim := { program := "ytdfihlnhgkobdaa", sum := "a22d832174d4e4bbd8d5c840bbee4ac3737155a4ce099432964ba3bccb275ffd", func := "spindle/spindlelaw13.FlightNobody", spec := "flightNobody", unfollowed := true, recurses := true, apart := false }
def FlightNobodySaid : Prop := flightNobodyRow.holds Try.pinned (OpenSpec.ofChange flightNobodySpec)

/-- ITS FALSE NEIGHBOUR: 'it returns false'. Refute it at one input. -/
def flightNobodyWrong : ChangeSpec := { name := "flightNobody", fn := fun _ => fun
  | [d] => { results := [.lit (.bool false)], args := [d] }
  | _ => none }
def FlightNobodyWrongFalsely : Prop := flightNobodyRow.holds Try.pinned (OpenSpec.ofChange flightNobodyWrong)

/- THE SECOND FORM. 'bulk': how many values and letters a reading holds, each counted each time it is reached (what is shared counts as often as it is met; a slice's spare places count too). A statement '..UptoSaid' is the law's where the arguments, and the package variables that the reading takes, are together of bulk at most 1048576: NARROWER than '..Said'. Prove '..Said' where nothing that the law and all that it calls make is longer than what came in: it says more and counts as full. Else prove '..UptoSaid'. A law counts once. -/
mutual
def uptoBulk {H : Type} : DataW H → Nat
  | .lit (.string bytes) => bytes.length + 1
  | .lit _ => 1
  | .nil => 1
  | .ptr d => uptoBulk d + 1
  | .slice elems spare => uptoBulkAll elems + uptoBulkAll spare + 1
  | .agg parts => uptoBulkAll parts + 1
  | .iface _ d => uptoBulk d + 1
  | .map entries => uptoBulkEntries entries + 1
  | .held _ => 1
def uptoBulkAll {H : Type} : List (DataW H) → Nat
  | [] => 0
  | d :: r => uptoBulk d + uptoBulkAll r
def uptoBulkEntries {H : Type} : List (Lit × DataW H) → Nat
  | [] => 0
  | x :: r => uptoBulkEntry x + uptoBulkEntries r
def uptoBulkEntry {H : Type} : Lit × DataW H → Nat
  | (.string bytes, d) => bytes.length + uptoBulk d + 1
  | (_, d) => uptoBulk d + 1
 end
def uptoSmall : (H : Type) → List (DataW H) → Bool := fun _ ds => decide (uptoBulkAll ds ≤ 1048576)
def OpenSpec.upto (s : _root_.Go.ChangeSpec) : _root_.Go.OpenSpec := { _root_.Go.OpenSpec.ofChange s with cond := some uptoSmall }

/-- 'spindlelaw13.FlightOnce', WHERE WHAT IT READS IS OF BULK AT MOST 1048576: true; the input reads as it did. -/
def flightOnceUptoRow : OpenClaim := { program := "ytdfihlnhgkobdaa", sum := "a22d832174d4e4bbd8d5c840bbee4ac3737155a4ce099432964ba3bccb275ffd", func := "spindle/spindlelaw13.FlightOnce", spec := "flightOnce", apart := false, narrowed := true }
def FlightOnceUptoSaid : Prop := flightOnceUptoRow.holds Try.pinned (OpenSpec.upto flightOnceSpec)

/-- 'spindlelaw13.FlightMakes', WHERE WHAT IT READS IS OF BULK AT MOST 1048576: true; the input reads as it did. -/
def flightMakesUptoRow : OpenClaim := { program := "ytdfihlnhgkobdaa", sum := "a22d832174d4e4bbd8d5c840bbee4ac3737155a4ce099432964ba3bccb275ffd", func := "spindle/spindlelaw13.FlightMakes", spec := "flightMakes", unfollowed := true, recurses := true, apart := false, narrowed := true }
def FlightMakesUptoSaid : Prop := flightMakesUptoRow.holds Try.pinned (OpenSpec.upto flightMakesSpec)

/-- 'spindlelaw13.FlightMoves', WHERE WHAT IT READS IS OF BULK AT MOST 1048576: true; the input reads as it did. -/
def flightMovesUptoRow : OpenClaim := { program := "ytdfihlnhgkobdaa", sum := "a22d832174d4e4bbd8d5c840bbee4ac3737155a4ce099432964ba3bccb275ffd", func := "spindle/spindlelaw13.FlightMoves", spec := "flightMoves", unfollowed := true, recurses := true, apart := false, narrowed := true }
def FlightMovesUptoSaid : Prop := flightMovesUptoRow.holds Try.pinned (OpenSpec.upto flightMovesSpec)

/-- 'spindlelaw13.FlightTells', WHERE WHAT IT READS IS OF BULK AT MOST 1048576: true; the input reads as it did. -/
def flightTellsUptoRow : OpenClaim := { program := "ytdfihlnhgkobdaa", sum := "a22d832174d4e4bbd8d5c840bbee4ac3737155a4ce099432964ba3bccb275ffd", func := "spindle/spindlelaw13.FlightTells", spec := "flightTells", unfollowed := true, recurses := true, apart := false, narrowed := true }
def FlightTellsUptoSaid : Prop := flightTellsUptoRow.holds Try.pinned (OpenSpec.upto flightTellsSpec)

/-- 'spindlelaw13.FlightAll', WHERE WHAT IT READS IS OF BULK AT MOST 1048576: true; the input reads as it did. -/
def flightAllUptoRow : OpenClaim := { program := "ytdfihlnhgkobdaa", sum := "a22d832174d4e4bbd8d5c840bbee4ac3737155a4ce099432964ba3bccb275ffd", func := "spindle/spindlelaw13.FlightAll", spec := "flightAll", unfollowed := true, recurses := true, apart := false, narrowed := true }
def FlightAllUptoSaid : Prop := flightAllUptoRow.holds Try.pinned (OpenSpec.upto flightAllSpec)

/-- 'spindlelaw13.FlightRanges', WHERE WHAT IT READS IS OF BULK AT MOST 1048576: true; the input reads as it did. -/
def flightRangesUptoRow : OpenClaim := { program := "ytdfihlnhgkobdaa", sum := "a22d832174d4e4bbd8d5c840bbee4ac3737155a4ce099432964ba3bccb275ffd", func := "spindle/spindlelaw13.FlightRanges", spec := "flightRanges", unfollowed := true, recurses := true, apart := false, narrowed := true }
def FlightRangesUptoSaid : Prop := flightRangesUptoRow.holds Try.pinned (OpenSpec.upto flightRangesSpec)

/-- 'spindlelaw13.FlightNobody', WHERE WHAT IT READS IS OF BULK AT MOST 1048576: true; the input reads as it did. -/
def flightNobodyUptoRow : OpenClaim := { program := "ytdfihlnhgkobdaa", sum := "a22d832174d4e4bbd8d5c840bbee4ac3737155a4ce099432964ba3bccb275ffd", func := "spindle/spindlelaw13.FlightNobody", spec := "flightNobody", unfollowed := true, recurses := true, apart := false, narrowed := true }
def FlightNobodyUptoSaid : Prop := flightNobodyUptoRow.holds Try.pinned (OpenSpec.upto flightNobodySpec)

end Rows
end Go.Proofs.Ytdfihlnhgkobdaa

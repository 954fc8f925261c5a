/-
  No cell of these rows narrows 'for every input' (looked for: loops, veiled, ifaces, maps, wideKeys, modest, calm, conditions, laid).
  DERIVED. THE GIVEN ROWS OF THIS SEAT. 5 by the template 'for every input the law returns true; each argument reads behind the call as it read before'; 0 by the template 'total and deterministic' (their statements: YtelkkdkdebipnaaTotals.lean).
  GIVEN WITH THE SEED: the statements are not yours to turn. If you find one false, say at which input.
  Laid BY PROGRAM, IN A SANDBOX (cutbox-rows.mjs): the forced cells as the released guide's own fill.sh prints them over the translation 88b7a7bf37d97961… (all of the seat's roots in one cut). By AI agents, Wed Nov 11 2026. No macro, syntax, notation, axiom, sorry.
-/
import Derived.Test.YtelkkdkdebipnaaChecked
import GoSem.Claim
import GoSem.ClaimJoined
import GoSem.ClaimMapViews
import Derived.JoinedTies
import Derived.KernelRfl
namespace Go.Proofs.Ytelkkdkdebipnaa
/- THE CELL 'sum', in the pinned program and in every row, IS THE sha256 OF THE DUMP (.gsa) THAT YtelkkdkdebipnaaProg.lean LOADS. Nothing in Lean hashes anything: it is a label: what it is worth is what the hold of that sum in a sandbox is worth. -/
noncomputable def Try.pinned : Pinned := { name := "ytelkkdkdebipnaa", sum := "88b7a7bf37d97961b6a544b4312cccb526b1ebedc9ea1d7411daefb97f836539", checked := Try.checked }
namespace Rows
def none {H : Type} : Left H := { results := [], args := [] }

/-- 'spindlelaw14.ConnNames': WHATEVER THE INPUT: true; the input reads as it did. -/
def connNamesSpec : ChangeSpec := { name := "connNames", fn := fun _ => fun
  | [] => { results := [.lit (.bool true)], args := [] }
  | _ => none }
def connNamesRow : OpenClaim := { program := "ytelkkdkdebipnaa", sum := "88b7a7bf37d97961b6a544b4312cccb526b1ebedc9ea1d7411daefb97f836539", func := "spindle/spindlelaw14.ConnNames", spec := "connNames", apart := false }
def ConnNamesSaid : Prop := connNamesRow.holds Try.pinned (OpenSpec.ofChange connNamesSpec)

/-- ITS FALSE NEIGHBOUR: 'it returns false'. Refute it at one input. -/
def connNamesWrong : ChangeSpec := { name := "connNames", fn := fun _ => fun
  | [] => { results := [.lit (.bool false)], args := [] }
  | _ => none }
def ConnNamesWrongFalsely : Prop := connNamesRow.holds Try.pinned (OpenSpec.ofChange connNamesWrong)

/-- 'spindlelaw16.ClientNames': WHATEVER THE INPUT: true; the input reads as it did. -/
def clientNamesSpec : ChangeSpec := { name := "clientNames", fn := fun _ => fun
  | [] => { results := [.lit (.bool true)], args := [] }
  | _ => none }
def clientNamesRow : OpenClaim := { program := "ytelkkdkdebipnaa", sum := "88b7a7bf37d97961b6a544b4312cccb526b1ebedc9ea1d7411daefb97f836539", func := "spindle/spindlelaw16.ClientNames", spec := "clientNames", apart := false }
def ClientNamesSaid : Prop := clientNamesRow.holds Try.pinned (OpenSpec.ofChange clientNamesSpec)

/-- ITS FALSE NEIGHBOUR: 'it returns false'. Refute it at one input. -/
def clientNamesWrong : ChangeSpec := { name := "clientNames", fn := fun _ => fun
  | [] => { results := [.lit (.bool false)], args := [] }
  | _ => none }
def ClientNamesWrongFalsely : Prop := clientNamesRow.holds Try.pinned (OpenSpec.ofChange clientNamesWrong)

/-- 'spindlelaw22.TraceNames': WHATEVER THE INPUT: true; the input reads as it did. -/
def traceNamesSpec : ChangeSpec := { name := "traceNames", fn := fun _ => fun
  | [] => { results := [.lit (.bool true)], args := [] }
  | _ => none }
def traceNamesRow : OpenClaim := { program := "ytelkkdkdebipnaa", sum := "88b7a7bf37d97961b6a544b4312cccb526b1ebedc9ea1d7411daefb97f836539", func := "spindle/spindlelaw22.TraceNames", spec := "traceNames", apart := false }
def TraceNamesSaid : Prop := traceNamesRow.holds Try.pinned (OpenSpec.ofChange traceNamesSpec)

/-- ITS FALSE NEIGHBOUR: 'it returns false'. Refute it at one input. -/
def traceNamesWrong : ChangeSpec := { name := "traceNames", fn := fun _ => fun
  | [] => { results := [.lit (.bool false)], args := [] }
  | _ => none }
def TraceNamesWrongFalsely : Prop := traceNamesRow.holds Try.pinned (OpenSpec.ofChange traceNamesWrong)

/-- 'spindlelaw24.MirrorNames': WHATEVER THE INPUT: true; the input reads as it did. -/
def mirrorNamesSpec : ChangeSpec := { name := "mirrorNames", fn := fun _ => fun
  | [] => { results := [.lit (.bool true)], args := [] }
  | _ => none }
def mirrorNamesRow : OpenClaim := { program := "ytelkkdkdebipnaa", sum := "88b7a7bf37d97961b6a544b4312cccb526b1ebedc9ea1d7411daefb97f836539", func := "spindle/spindlelaw24.MirrorNames", spec := "mirrorNames", apart := false }
def MirrorNamesSaid : Prop := mirrorNamesRow.holds Try.pinned (OpenSpec.ofChange mirrorNamesSpec)

/-- ITS FALSE NEIGHBOUR: 'it returns false'. Refute it at one input. -/
def mirrorNamesWrong : ChangeSpec := { name := "mirrorNames", fn := fun _ => fun
  | [] => { results := [.lit (.bool false)], args := [] }
  | _ => none }
def MirrorNamesWrongFalsely : Prop := mirrorNamesRow.holds Try.pinned (OpenSpec.ofChange mirrorNamesWrong)

/-- 'spindlelaw18.EngineNames': WHATEVER THE INPUT: true; the input reads as it did. -/
def engineNamesSpec : ChangeSpec := { name := "engineNames", fn := fun _ => fun
  | [] => { results := [.lit (.bool true)], args := [] }
  | _ => none }
def engineNamesRow : OpenClaim := { program := "ytelkkdkdebipnaa", sum := "88b7a7bf37d97961b6a544b4312cccb526b1ebedc9ea1d7411daefb97f836539", func := "spindle/spindlelaw18.EngineNames", spec := "engineNames", apart := false }
def EngineNamesSaid : Prop := engineNamesRow.holds Try.pinned (OpenSpec.ofChange engineNamesSpec)

/-- ITS FALSE NEIGHBOUR: 'it returns false'. Refute it at one input. -/
def engineNamesWrong : ChangeSpec := { name := "engineNames", fn := fun _ => fun
  | [] => { results := [.lit (.bool false)], args := [] }
  | _ => none }
def EngineNamesWrongFalsely : Prop := engineNamesRow.holds Try.pinned (OpenSpec.ofChange engineNamesWrong)

/- THE SECOND FORM. 'bulk': how many values and letters a reading holds, each counted each time it is reached (what is shared counts as often as it is met; a slice's spare places count too). A statement '..UptoSaid' is the law's where the arguments, and the package variables that the reading takes, are together of bulk at most 1048576: NARROWER than '..Said'. Prove '..Said' where nothing that the law and all that it calls make is longer than what came in: it says more and counts as full. Else prove '..UptoSaid'. A law counts once. -/
mutual
def uptoBulk {H : Type} : DataW H → Nat
  | .lit (.string bytes) => bytes.length + 1
  | .lit _ => 1
  | .nil => 1
  | .ptr d => uptoBulk d + 1
  | .slice elems spare => uptoBulkAll elems + uptoBulkAll spare + 1
  | .agg parts => uptoBulkAll parts + 1
  | .iface _ d => uptoBulk d + 1
  | .map entries => uptoBulkEntries entries + 1
  | .held _ => 1
def uptoBulkAll {H : Type} : List (DataW H) → Nat
  | [] => 0
  | d :: r => uptoBulk d + uptoBulkAll r
def uptoBulkEntries {H : Type} : List (Lit × DataW H) → Nat
  | [] => 0
  | x :: r => uptoBulkEntry x + uptoBulkEntries r
def uptoBulkEntry {H : Type} : Lit × DataW H → Nat
  | (.string bytes, d) => bytes.length + uptoBulk d + 1
  | (_, d) => uptoBulk d + 1
 end
def uptoSmall : (H : Type) → List (DataW H) → Bool := fun _ ds => decide (uptoBulkAll ds ≤ 1048576)
def OpenSpec.upto (s : _root_.Go.ChangeSpec) : _root_.Go.OpenSpec := { _root_.Go.OpenSpec.ofChange s with cond := some uptoSmall }

/-- 'spindlelaw14.ConnNames', WHERE WHAT IT READS IS OF BULK AT MOST 1048576: true; the input reads as it did. -/
def connNamesUptoRow : OpenClaim := { program := "ytelkkdkdebipnaa", sum := "88b7a7bf37d97961b6a544b4312cccb526b1ebedc9ea1d7411daefb97f836539", func := "spindle/spindlelaw14.ConnNames", spec := "connNames", apart := false, narrowed := true }
def ConnNamesUptoSaid : Prop := connNamesUptoRow.holds Try.pinned (OpenSpec.upto connNamesSpec)

/-- 'spindlelaw16.ClientNames', WHERE WHAT IT READS IS OF BULK AT MOST 1048576: true; the input reads as it did. -/
def clientNamesUptoRow : OpenClaim := { program := "ytelkkdkdebipnaa", sum := "88b7a7bf37d97961b6a544b4312cccb526b1ebedc9ea1d7411daefb97f836539", func := "spindle/spindlelaw16.ClientNames", spec := "clientNames", apart := false, narrowed := true }
def ClientNamesUptoSaid : Prop := clientNamesUptoRow.holds Try.pinned (OpenSpec.upto clientNamesSpec)

/-- 'spindlelaw22.TraceNames', WHERE WHAT IT READS IS OF BULK AT MOST 1048576: true; the input reads as it did. -/
def traceNamesUptoRow : OpenClaim := { program := "ytelkkdkdebipnaa", sum := "88b7a7bf37d97961b6a544b4312cccb526b1ebedc9ea1d7411daefb97f836539", func := "spindle/spindlelaw22.TraceNames", spec := "traceNames", apart := false, narrowed := true }
def TraceNamesUptoSaid : Prop := traceNamesUptoRow.holds Try.pinned (OpenSpec.upto traceNamesSpec)

/-- 'spindlelaw24.MirrorNames', WHERE WHAT IT READS IS OF BULK AT MOST 1048576: true; the input reads as it did. -/
def mirrorNamesUptoRow : OpenClaim := { program := "ytelkkdkdebipnaa", sum := "88b7a7bf37d97961b6a544b4312cccb526b1ebedc9ea1d7411daefb97f836539", func := "spindle/spindlelaw24.MirrorNames", spec := "mirrorNames", apart := false, narrowed := true }
def MirrorNamesUptoSaid : Prop := mirrorNamesUptoRow.holds Try.pinned (OpenSpec.upto mirrorNamesSpec)

/-- 'spindlelaw18.EngineNames', WHERE WHAT IT READS IS OF BULK AT MOST 1048576: true; the input reads as it did. -/
def engineNamesUptoRow : OpenClaim := { program := "ytelkkdkdebipnaa", sum := "88b7a7bf37d97961b6a544b4312cccb526b1ebedc9ea1d7411daefb97f836539", func := "spindle/spindlelaw18.EngineNames", spec := "engineNames", apart := false, narrowed := true }
def EngineNamesUptoSaid : Prop := engineNamesUptoRow.holds Try.pinned (OpenSpec.upto engineNamesSpec)

end Rows
end Go.Proofs.Ytelkkdkdebipnaa

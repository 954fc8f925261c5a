/- The row of ClientBreaks: what its cells say of the program, piece by piece (the whole in one asks too much memory). -/
import Derived.Test.YtdocmpnofklaoaaGreatDoorRows
import Derived.WalkKit
import Derived.ProofKit
import Derived.JoinedOf
namespace Go.Proofs.YtdocmpnofklaoaaGreatDoor.clientBreaks
theorem in1 : (Rows.clientBreaksRow.inPlace == Tryz.prog.inPlace 3) = true := by kernel_rfl
theorem in2 : (Rows.clientBreaksRow.unfollowed == Tryz.prog.unfollowed 3) = true := by kernel_rfl
theorem in3 : (Rows.clientBreaksRow.recurses == Tryz.prog.recurses 3) = true := by kernel_rfl
theorem in4 : (Rows.clientBreaksRow.named == Tryz.prog.varsNamed 3) = true := by kernel_rfl
theorem in5 : (Rows.clientBreaksRow.plainKeys == Tryz.prog.plainKeys) = true := by kernel_rfl
theorem in6 : Tryz.prog.stopsHeard = true := by kernel_rfl
theorem in7 : Tryz.prog.mayEnter = true := by kernel_rfl
theorem in8 : (Rows.clientBreaksRow.lifted == Tryz.prog.liftsFinal) = true := by kernel_rfl
theorem in9 : mapsRowed Tryz.prog = true := by kernel_rfl
theorem in10 : laidOutB Tryz.prog = true := by kernel_rfl
theorem in11 : namedTie Tryz.prog Rows.clientBreaksRow.named Rows.clientBreaksSpec.vars = true := by kernel_rfl
theorem closed : joinedFacts Tryz.prog 3 Tryz.f3 Rows.clientBreaksSpec Rows.clientBreaksRow = true := by
  unfold joinedFacts
  simp only [Bool.and_eq_true]
  repeat' apply And.intro
  all_goals first | with_reducible exact in1 | with_reducible exact in2 | with_reducible exact in3 | with_reducible exact in4 | with_reducible exact in5 | with_reducible exact in6 | with_reducible exact in7 | with_reducible exact in8 | with_reducible exact in9 | with_reducible exact in10 | with_reducible exact in11 | kernel_rfl
end Go.Proofs.YtdocmpnofklaoaaGreatDoor.clientBreaks

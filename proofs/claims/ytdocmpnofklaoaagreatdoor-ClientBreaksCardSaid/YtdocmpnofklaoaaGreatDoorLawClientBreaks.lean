/- The law ClientBreaks answers true at any input: its card, tied to the program's text. No conditions. -/
import Derived.Test.YtdocmpnofklaoaaGreatDoorRows
import Derived.Test.YtdocmpnofklaoaaGreatDoorCards
import Derived.Test.YtdocmpnofklaoaaGreatDoorTie
import Derived.Test.YtdocmpnofklaoaaGreatDoorLawClientBreaks0
import Derived.WalkKit
import Derived.ProofKit
import Derived.OpenShut
import Derived.Below
import Derived.Carry
import Derived.SizedLaws
import Derived.LaidMore
import Derived.Stop.Joined
import Derived.SevenTiedAt
import Derived.Lay
import Derived.ChangeSame
namespace Go.Proofs.YtdocmpnofklaoaaGreatDoor.clientBreaks
open Go.ChangeShapes Go.WideShapes Go.ChangeAt Go.RowKit
theorem c1 : Tryz.prog.mainIs = some (true, "5e0b35293431ce1554fe411731df603b7ea21d03f6314a035c6512ad19db6b66".toList) := by kernel_rfl
theorem c2 : true = Tryz.prog.looks [] := by kernel_rfl
theorem c3 : false = Rows.clientBreaksRow.goesBy Tryz.prog := by kernel_rfl
theorem c4 : ([4, 5, 22].all fun u => !Tryz.prog.wantsStandIn u) = true := by kernel_rfl
theorem c5 : Tryz.prog.funcNamed "spindle/spindlelaw16.ClientBreaks" = some 3 := by kernel_rfl

theorem card : Rows.ClientBreaksCardSaid :=
  Claim7.holds_tied_plain_at .later [] [.data, .pinned] true (true, "5e0b35293431ce1554fe411731df603b7ea21d03f6314a035c6512ad19db6b66") true
    over (fun _ h => by cases h) (by kernel_rfl) (fun _ h => by cases h) clientBreaks_row_tie rfl ⟨rfl, rfl⟩ c1 rfl
    (fun f fn hf hfn => by
      obtain rfl : f = 3 := Option.some.inj (c5.symm.trans hf) |>.symm
      obtain rfl : fn = Tryz.f3 := (Option.some.inj (Tryz.func3.symm.trans hfn)).symm
      exact ⟨c2, fun j t ht => by
        rw [Tryz.params3] at ht
        have hm : t ∈ [4, 5, 22] := by simpa using Array.mem_of_getElem? ht
        exact (show Tryz.prog.wantsStandIn t = false by simpa using List.all_eq_true.1 c4 t hm)⟩)
    c3
#print axioms card
end Go.Proofs.YtdocmpnofklaoaaGreatDoor.clientBreaks
namespace Go.Proofs.YtdocmpnofklaoaaGreatDoor
/-- The card, under a short name, for the claim. -/
theorem clientBreaks_card : Rows.ClientBreaksCardSaid := clientBreaks.card
end Go.Proofs.YtdocmpnofklaoaaGreatDoor

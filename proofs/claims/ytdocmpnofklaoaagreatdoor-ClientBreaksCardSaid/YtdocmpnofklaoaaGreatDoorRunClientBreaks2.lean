/- The law ClientBreaks, run: the beginning; that the program still runs. -/
import Derived.Test.YtdocmpnofklaoaaGreatDoorRunClientBreaks0
namespace Go.Proofs.YtdocmpnofklaoaaGreatDoor.RunBreaks
open Go Go.Proofs.YtdocmpnofklaoaaGreatDoor.Ev
noncomputable abbrev r0 (b : Bool) (x : Int) (v : Value) : GRes := evalG Tryz.prog [] 100000 (Code.fst body) (start b x v) H.empty ⟨[], 0, True⟩
noncomputable abbrev r1 (b : Bool) (x : Int) (v : Value) : GRes := evalG Tryz.prog [] 100000 (Code.fst b1) (GRes.fr (r0 b x v)) (GRes.hp (r0 b x v)) ⟨[], 0, True⟩
def told (b : Bool) (r : GRes) : Bool := objsB (fun a => (olds b).getD a 0) (HA b).length 100 (GRes.hp r) 0 (HA b)
theorem q0 (b : Bool) (x : Int) (v : Value) : (r0 b x v).view [] [] = (true, .normal, 132, [], [], [], True) := by kernel_rfl
theorem pf (x : Int) (v : Value) : ((r1 false x v).view [1, 2, 7] [], told false (r1 false x v)) = ((true, .normal, 132, [], [.int .u8 x, rawV v, .pointer (some ⟨3, 0, none⟩)], [], True), true) := by kernel_rfl
theorem pt (x : Int) (v : Value) : ((r1 true x v).view [1, 2, 7] [], told true (r1 true x v)) = ((true, .normal, 132, [], [.int .u8 x, rawV v, .pointer (some ⟨3, 0, none⟩)], [], True), true) := by kernel_rfl
noncomputable abbrev al : CRes := callGE Tryz.prog [] 100000 21 [] H.empty []
theorem alive : al.view = (true, .bool true, True) := by kernel_rfl
end Go.Proofs.YtdocmpnofklaoaaGreatDoor.RunBreaks

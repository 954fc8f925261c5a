/- The law ClientBreaks, run: the twelve ways. -/
import Derived.Test.YtdocmpnofklaoaaGreatDoorRunClientBreaks0
namespace Go.Proofs.YtdocmpnofklaoaaGreatDoor.RunBreaks
open Go Go.Proofs.YtdocmpnofklaoaaGreatDoor.Ev
abbrev ob (r : Nat) (x : Int) : Prop := ((True ∧ Value.int .u8 (x.tmod 6) = .int .u8 r) ∧ ([] : List Value) = [])
theorem kf0 (x : Int) (v : Value) : (run2 false 0 x v).view [6] [] = (true, .ret, 132, [], [.bool true], [], ob 0 x) := by kernel_rfl
theorem kf1 (x : Int) (v : Value) : (run2 false 1 x v).view [6] [] = (true, .ret, 132, [], [.bool true], [], ob 1 x) := by kernel_rfl
theorem kf2 (x : Int) (v : Value) : (run2 false 2 x v).view [6] [] = (true, .ret, 132, [], [.bool true], [], ob 2 x) := by kernel_rfl
theorem kf3 (x : Int) (v : Value) : (run2 false 3 x v).view [6] [] = (true, .ret, 132, [], [.bool true], [], ob 3 x) := by kernel_rfl
theorem kf4 (x : Int) (v : Value) : (run2 false 4 x v).view [6] [] = (true, .ret, 132, [], [.bool true], [], ob 4 x) := by kernel_rfl
theorem kf5 (x : Int) (v : Value) : (run2 false 5 x v).view [6] [] = (true, .ret, 132, [], [.bool true], [], ob 5 x) := by kernel_rfl
theorem kt0 (x : Int) (v : Value) : (run2 true 0 x v).view [6] [] = (true, .ret, 132, [], [.bool true], [], ob 0 x) := by kernel_rfl
theorem kt1 (x : Int) (v : Value) : (run2 true 1 x v).view [6] [] = (true, .ret, 132, [], [.bool true], [], ob 1 x) := by kernel_rfl
theorem kt2 (x : Int) (v : Value) : (run2 true 2 x v).view [6] [] = (true, .ret, 132, [], [.bool true], [], ob 2 x) := by kernel_rfl
theorem kt3 (x : Int) (v : Value) : (run2 true 3 x v).view [6] [] = (true, .ret, 132, [], [.bool true], [], ob 3 x) := by kernel_rfl
theorem kt4 (x : Int) (v : Value) : (run2 true 4 x v).view [6] [] = (true, .ret, 132, [], [.bool true], [], ob 4 x) := by kernel_rfl
theorem kt5 (x : Int) (v : Value) : (run2 true 5 x v).view [6] [] = (true, .ret, 132, [], [.bool true], [], ob 5 x) := by kernel_rfl

theorem looks (b : Bool) (r : Nat) (hr : r < 6) (x : Int) (v : Value) : Looks (run2 b r x v) .ret 132 [6] [.bool true] [] [] (ob r x) := by
  match r, hr with
  | 0, _ => cases b with
    | false => exact Looks.of (kf0 x v)
    | true => exact Looks.of (kt0 x v)
  | 1, _ => cases b with
    | false => exact Looks.of (kf1 x v)
    | true => exact Looks.of (kt1 x v)
  | 2, _ => cases b with
    | false => exact Looks.of (kf2 x v)
    | true => exact Looks.of (kt2 x v)
  | 3, _ => cases b with
    | false => exact Looks.of (kf3 x v)
    | true => exact Looks.of (kt3 x v)
  | 4, _ => cases b with
    | false => exact Looks.of (kf4 x v)
    | true => exact Looks.of (kt4 x v)
  | 5, _ => cases b with
    | false => exact Looks.of (kf5 x v)
    | true => exact Looks.of (kt5 x v)
end Go.Proofs.YtdocmpnofklaoaaGreatDoor.RunBreaks

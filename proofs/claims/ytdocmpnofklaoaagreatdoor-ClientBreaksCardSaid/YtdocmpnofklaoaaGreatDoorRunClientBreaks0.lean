/- The law ClientBreaks, run: what it starts from. -/
import Derived.Test.YtdocmpnofklaoaaGreatDoorProg
import Derived.Test.YtdocmpnofklaoaaGreatDoorEv27
namespace Go.Proofs.YtdocmpnofklaoaaGreatDoor.RunBreaks
open Go Go.Proofs.YtdocmpnofklaoaaGreatDoor.Ev

theorem mixed : Tryz.prog.follows .mixedOrders = true := by kernel_rfl
noncomputable def body : Code := (Tryz.f3.body).getD .skip
theorem bodyE : Tryz.f3.body = some body := by kernel_rfl
noncomputable def b1 := Code.snd body
noncomputable def b2 := Code.snd b1
theorem bodyS : body = .seq (Code.fst body) (.seq (Code.fst b1) b2) := by kernel_rfl

/-- What lies there when the transmission has begun. -/
def HA : Bool → List Ob
  | false => [
  .row [.bool true, .int .i64 3, .pointer (some ⟨1, 0, none⟩), .bool true, .int .u32 3, .int .u32 3, .pointer none, .bool false, .bool false, .map (some 2), .bool false, .map (some 3), .int .u64 0, .pointer none, .int .u64 0, .int .u32 0, .int .u64 0, .slice none 0 0] 117,
  .row [.int .i64 2097152, .slice (some ⟨4, 0, some 3⟩) 0 0, .int .u64 0] 227,
  .map [] 0,
  .map [] 0,
  .row [] 5]
  | true => [
  .row [.bool true, .int .i64 3, .pointer (some ⟨1, 0, none⟩), .bool true, .int .u32 3, .int .u32 3, .pointer none, .bool true, .bool false, .map (some 2), .bool false, .map (some 3), .int .u64 0, .pointer none, .int .u64 0, .int .u32 0, .int .u64 0, .slice none 0 0] 117,
  .row [.int .i64 2097152, .slice (some ⟨4, 0, some 3⟩) 0 0, .int .u64 0] 227,
  .map [⟨.int .u32 1, .int .i64 1, 0⟩] 1,
  .map [] 0,
  .row [] 5]
def olds : Bool → List Nat
  | false => [3, 4, 1, 2, 180]
  | true => [3, 4, 172, 2, 403]
abbrev kt : KT := [(21, 0, constCon (.bool true))]
abbrev start (b : Bool) (x : Int) (v : Value) : Fr := ⟨T.ofListFrom .nil 0 [.bool b, .int .u8 x, rawV v], 132, []⟩
abbrev mid (x : Int) (v : Value) : Fr := frOf 132 [(1, .int .u8 x), (2, rawV v), (7, .pointer (some ⟨0, 0, none⟩))]
abbrev orc (r : Nat) : List (Nat × Orc) := [(975, .val (.int .u8 r))]
noncomputable abbrev run2 (b : Bool) (r : Nat) (x : Int) (v : Value) : GRes := evalG Tryz.prog kt 100000 b2 (mid x v) (heapOf (HA b)) ⟨orc r, 0, True⟩
end Go.Proofs.YtdocmpnofklaoaaGreatDoor.RunBreaks

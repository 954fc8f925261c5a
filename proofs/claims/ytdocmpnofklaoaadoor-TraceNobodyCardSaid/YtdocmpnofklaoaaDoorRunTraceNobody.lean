/- The law TraceNobody, run: a trace that no call made, a script of any length. No conditions but that the script is shorter than 2^62. -/
import Derived.Test.YtdocmpnofklaoaaDoorProg
import Derived.Test.YtdocmpnofklaoaaDoorEv26
namespace Go.Proofs.YtdocmpnofklaoaaDoor.RunNobody
open Go Go.Proofs.YtdocmpnofklaoaaDoor.Ev

theorem mixed : Tryd.prog.follows .mixedOrders = true := by kernel_rfl
theorem noKT {P : Program} : KTOk P [] := fun _ h => by cases h

noncomputable def body : Code := (Tryd.f3.body).getD .skip
theorem bodyE : Tryd.f3.body = some body := by kernel_rfl
noncomputable def c1 := Code.snd body
noncomputable def c2 := Code.snd c1
noncomputable def cA := Code.fst c2
noncomputable def c3 := Code.snd c2
noncomputable def cL := Code.fst c3
noncomputable def c4 := Code.fst cL
noncomputable def cB := Code.snd cL
noncomputable def cLoop := Code.fst cB
noncomputable def cBody := Code.fst cLoop
noncomputable def cEnd := Code.snd c3
theorem bodyS : body = .seq (Code.fst body) (.seq (Code.fst c1) (.seq cA (.seq (.seq c4 (.block 0 (.loop cBody))) cEnd))) := by kernel_rfl

/-- The trace: none, or one that no call made. -/
def box : AObj := rowOf 32 [.pointer none, .pointer none, .int .u32 0, .bool false, .bool false, .slice none 0 0, .bool false, .bool false, .bool false, .map none, .int .i64 0, .int .i64 0, .int .i64 0, .int .i64 0, .int .u64 0, .int .u64 0]
def tr : Bool → Value
  | true => .pointer (some ⟨1, 0, none⟩)
  | false => .pointer none
abbrev script (n cp : Nat) : Value := .slice (some ⟨0, 0, some 5⟩) n cp
abbrev H0 (m : Nat) (F : Nat → Option Value) : H := H.empty.new (.row m (.fn F) roT)
def Hc (m : Nat) (F : Nat → Option Value) : Bool → H
  | true => (H0 m F).new box
  | false => H0 m F
abbrev start (n cp : Nat) (b : Bool) (v : Value) : Fr := (⟨T.ofListFrom .nil 0 [rawV v, .bool b], 43, []⟩ : Fr).lay 0 (script n cp)
noncomputable abbrev p0 (n cp m : Nat) (b : Bool) (F : Nat → Option Value) (v : Value) : GRes := evalG Tryd.prog [] 1000 (Code.fst body) (start n cp b v) (H0 m F) ⟨[], 0, True⟩
noncomputable abbrev p1 (n cp m : Nat) (b : Bool) (F : Nat → Option Value) (v : Value) : GRes := evalG Tryd.prog [] 1000 (Code.fst c1) (GRes.fr (p0 n cp m b F v)) (GRes.hp (p0 n cp m b F v)) ⟨[], 0, True⟩
noncomputable abbrev p2 (n cp m : Nat) (b : Bool) (F : Nat → Option Value) (v : Value) : GRes := evalG Tryd.prog [] 1000 cA (GRes.fr (p1 n cp m b F v)) (GRes.hp (p1 n cp m b F v)) ⟨[], 0, True⟩
noncomputable abbrev p3 (n cp m : Nat) (b : Bool) (F : Nat → Option Value) (v : Value) : GRes := evalG Tryd.prog [] 1000 c4 (GRes.fr (p2 n cp m b F v)) (GRes.hp (p2 n cp m b F v)) ⟨[], 0, True⟩
theorem q0 (n cp m : Nat) (b : Bool) (F : Nat → Option Value) (v : Value) : (p0 n cp m b F v).view [] [] = (true, .normal, 43, [], [], [], True) := by kernel_rfl
theorem q1 (n cp m : Nat) (b : Bool) (F : Nat → Option Value) (v : Value) : (p1 n cp m b F v).view [] [] = (true, .normal, 43, [], [], [], True) := by kernel_rfl
theorem q2T (n cp m : Nat) (F : Nat → Option Value) (v : Value) : (p2 n cp m true F v).view [] [] = (true, .normal, 43, [], [], [], True) := by kernel_rfl
theorem q2F (n cp m : Nat) (F : Nat → Option Value) (v : Value) : (p2 n cp m false F v).view [] [] = (true, .normal, 43, [], [], [], True) := by kernel_rfl
theorem preT (n cp m : Nat) (F : Nat → Option Value) (v : Value) : (p3 n cp m true F v).view [0, 5, 6] [0, 1] = (true, .normal, 43, [], [script n cp, tr true, .int .i64 0], [some (.row m (.fn F) roT), some box], True) := by kernel_rfl
theorem preF (n cp m : Nat) (F : Nat → Option Value) (v : Value) : (p3 n cp m false F v).view [0, 5, 6] [0, 1] = (true, .normal, 43, [], [script n cp, tr false, .int .i64 0], [some (.row m (.fn F) roT), none], True) := by kernel_rfl

abbrev at_ (n cp i : Nat) (b : Bool) : Fr := frOf 43 [(0, script n cp), (5, tr b), (6, .int .i64 i)]
abbrev orcT (bv : Bool) (dv : Value) (i : Nat) (k : Nat) : List (Nat × Orc) := [(3, .val (.bool true)), (7, .idx), (9, .mem [.bool bv]), (12, .idx), (14, .mem [rawV dv]), (k, .val (.int .i64 (Int.ofNat (i + 1))))]
noncomputable abbrev round (n cp m i : Nat) (b : Bool) (F : Nat → Option Value) (orc : List (Nat × Orc)) : GRes := evalG Tryd.prog [] 1000 cBody (at_ n cp i b) (Hc m F b) ⟨orc, 0, True⟩

def obT (n m i : Nat) (F : Nat → Option Value) (bv : Bool) (dv : Value) : Prop :=
  (((((True ∧ Value.bool (Nat.blt i n) = .bool true) ∧ i < n) ∧ ((0 + i * 2) + 0 + 1 ≤ m ∧ F ((0 + i * 2) + 0) = some (.bool bv))) ∧ i < n) ∧ ((0 + i * 2) + 1 + 1 ≤ m ∧ F ((0 + i * 2) + 1) = some (rawV dv))) ∧
    Value.int .i64 (IntKind.i64.wrap (Int.ofNat i + 1)) = .int .i64 (Int.ofNat (i + 1))

theorem roundF (n cp m i : Nat) (F : Nat → Option Value) (bv : Bool) (dv : Value) :
    (round n cp m i false F (orcT bv dv i 25)).view [0, 5, 6] [0, 1] = (true, .normal, 43, [], [script n cp, tr false, .int .i64 (Int.ofNat (i + 1))], [some (.row m (.fn F) roT), none], obT n m i F bv dv) := by kernel_rfl
theorem roundT (n cp m i : Nat) (F : Nat → Option Value) (bv : Bool) (dv : Value) :
    (round n cp m i true F (orcT bv dv i 30)).view [0, 5, 6] [0, 1] = (true, .normal, 43, [], [script n cp, tr true, .int .i64 (Int.ofNat (i + 1))], [some (.row m (.fn F) roT), some box], obT n m i F bv dv) := by kernel_rfl

abbrev orcE : List (Nat × Orc) := [(3, .val (.bool false))]
theorem overF (n cp m i : Nat) (F : Nat → Option Value) :
    (round n cp m i false F orcE).view [0, 5, 6] [0, 1] = (true, .exit 0, 43, [], [script n cp, tr false, .int .i64 i], [some (.row m (.fn F) roT), none], (True ∧ Value.bool (Nat.blt i n) = .bool false)) := by kernel_rfl
theorem overT (n cp m i : Nat) (F : Nat → Option Value) :
    (round n cp m i true F orcE).view [0, 5, 6] [0, 1] = (true, .exit 0, 43, [], [script n cp, tr true, .int .i64 i], [some (.row m (.fn F) roT), some box], (True ∧ Value.bool (Nat.blt i n) = .bool false)) := by kernel_rfl

/-- Behind the loop: nothing is told, and what must come comes. -/
def Hend : Bool → H
  | true => (H.empty.new .dead).new box
  | false => H.empty.new .dead
noncomputable abbrev fin (b : Bool) : GRes := evalG Tryd.prog [] 100000 cEnd (frOf 43 [(5, tr b)]) (Hend b) ⟨[], 0, True⟩
theorem finF : (fin false).view [4] [] = (true, .ret, 43, [], [.bool true], [], True) := by kernel_rfl
theorem finT : (fin true).view [4] [] = (true, .ret, 43, [], [.bool true], [], True) := by kernel_rfl
/-- No script; a script of no length. -/
noncomputable abbrev whole (b : Bool) : GRes := evalG Tryd.prog [] 100000 body ⟨T.ofListFrom .nil 0 [.slice none 0 0, .bool b], 43, []⟩ H.empty ⟨[], 0, True⟩
theorem wholeF : (whole false).view [4] [] = (true, .ret, 43, [], [.bool true], [], True) := by kernel_rfl
theorem wholeT : (whole true).view [4] [] = (true, .ret, 43, [], [.bool true], [], True) := by kernel_rfl
noncomputable abbrev whole0 (b : Bool) (v : Value) : GRes := evalG Tryd.prog [] 100000 body (start 0 0 b v) (H.empty.new .dead) ⟨[], 0, True⟩
theorem whole0F (v : Value) : (whole0 false v).view [4] [] = (true, .ret, 43, [], [.bool true], [], True) := by kernel_rfl
theorem whole0T (v : Value) : (whole0 true v).view [4] [] = (true, .ret, 43, [], [.bool true], [], True) := by kernel_rfl
end Go.Proofs.YtdocmpnofklaoaaDoor.RunNobody

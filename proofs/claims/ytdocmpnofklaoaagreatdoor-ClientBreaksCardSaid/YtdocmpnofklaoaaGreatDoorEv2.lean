/- The evaluator: what each operation does to an abstract frame and an abstract heap. -/
import Derived.Test.YtdocmpnofklaoaaGreatDoorEv1
namespace Go.Proofs.YtdocmpnofklaoaaGreatDoor.Ev
open Go

inductive AObj where
  | row (n : Nat) (cs : T Value) (elem : TypeId)
  | map (es : List MapEntry) (clock : Nat)
  | iter (map : Option Nat) (since : Nat) (seen : List Nat) (last : Nat)
  | siter (s : ByteArray) (pos : Nat)
  | loop (st : LoopState) (pend : Option Code) (tm : T Value) (nt : Nat) (ps : List Tmp) (asg body : Code)
  | dead

/-- Rows of this kind are only read: what they stand for stays as it is. -/
def roT : TypeId := 999999997
def AObj.ro : AObj → Bool
  | .row _ _ e => Nat.beq e roT
  | _ => false

structure Cell where
  ver : Nat
  obj : AObj

structure H where
  objs : T Cell
  next : Nat
  clk : Nat

structure Fr where
  tm : T Value
  nt : Nat
  df : List (Option (FuncId × List Value))

def H.obj (h : H) (a : Nat) : Option AObj :=
  match h.objs.get a with
  | some c => some c.obj
  | none => none
def H.new (h : H) (o : AObj) : H := ⟨h.objs.put h.next ⟨h.clk, o⟩, h.next + 1, h.clk + 1⟩
def H.upd (h : H) (a : Nat) (o : AObj) : H := ⟨h.objs.put a ⟨h.clk, o⟩, h.next, h.clk + 1⟩
def H.empty : H := ⟨.nil, 0, 0⟩

/-! ### Values -/

/-- A value that came in, as it stands: nothing is done with it but to hand it on. -/
def rawT : TypeId := 999999999
abbrev rawV (v : Value) : Value := .iface rawT v


def okAtom : Value → Bool
  | .bool _ | .int _ _ | .string _ | .pointer none | .slice none _ _ | .map none | .nilFunc | .nilIface => true
  | _ => false
def okC : Value → Bool
  | .agg cs => cs.toList.all okAtom
  | .tuple cs => cs.toList.all okAtom
  | v => okAtom v

/-- A zero value that is plain: its cells are atoms. -/
def okZ (v : Value) : Bool := v.cells.toList.all okAtom
def Fr.get (s : Fr) (t : Nat) : Value :=
  match s.tm.get t with
  | some v => v
  | none => undef
def Fr.put (s : Fr) (d : Option Tmp) (v : Value) : Option Fr :=
  match d with
  | none => some s
  | some d => bif Nat.blt d s.nt then some ⟨s.tm.put d v, s.nt, s.df⟩ else none

/-- What a frame holds where nothing is known. -/
def anyT : TypeId := 999999998
def anyV : Value := .iface anyT (.tuple #[])
def known : Value → Bool
  | .iface t _ => !(Nat.beq t anyT)
  | _ => true

def ev (s : Fr) : Operand → Option Value
  | .tmp t => bif known (s.get t) then some (s.get t) else none
  | .const v => bif okC v then some v else none
  | .global _ => none
  | .func f => some (.func (.func f) #[] #[])

def evs (s : Fr) : List Operand → Option (List Value)
  | [] => some []
  | o :: os => match ev s o with
    | none => none
    | some v => match evs s os with
      | none => none
      | some vs => some (v :: vs)

def natV : Value → Option Nat
  | .int _ (.ofNat n) => some n
  | _ => none

def addA (a : Addr) (n : Nat) : Addr := ⟨a.block, a.off + n, none⟩

/-! ### Cells -/

def rowCells (cs : T Value) : Nat → Nat → Option (List Value)
  | _, 0 => some []
  | i, n + 1 => match cs.get i with
    | none => none
    | some v => match rowCells cs (i + 1) n with
      | none => none
      | some vs => some (v :: vs)

/-- n cells at place o of block b. -/
def loadN (g : Nat → Option AObj) (b o n : Nat) : Option (List Value) :=
  match g b with
  | some (.row m cs _) => bif Nat.ble (o + n) m then rowCells cs o n else none
  | _ => none

def putAll (cs : T Value) : Nat → List Value → T Value
  | _, [] => cs
  | i, v :: vs => putAll (cs.put i v) (i + 1) vs

def storeN (h : H) (b o : Nat) (vs : List Value) : Option H :=
  match vs with
  | [] => some h
  | _ :: _ => match h.obj b with
    | some (.row m cs e) => bif Nat.ble (o + vs.length) m && vs.all Value.oneCell' && !(Nat.beq e roT) then some (h.upd b (.row m (putAll cs o vs) e)) else none
    | _ => none

def rowOf (e : TypeId) (cs : List Value) : AObj := .row cs.length (T.ofListFrom .nil 0 cs) e

/-! ### Types -/

def isAggO (P : Program) (t : TypeId) : Option Bool :=
  match P.underlying t with
  | some (.struct _) | some (.array _ _) => some true
  | some _ => some false
  | none => none
def sizeO (P : Program) (t : TypeId) : Option Nat := match P.info? t with
  | some i => some i.size
  | none => none
def bytesO (P : Program) (t : TypeId) : Option Nat := match P.info? t with
  | some i => some i.bytes
  | none => none
/-- A type's zero value, where it is plain. -/
def zeroO (P : Program) (t : TypeId) : Option Value := match P.info? t with
  | some i => match i.zero with
    | some z => bif okZ z then some z else none
    | none => none
  | none => none

def loadT (P : Program) (g : Nat → Option AObj) (t : TypeId) (a : Addr) : Option Value :=
  bif a.spot.isSome then none else
  match isAggO P t with
  | some true => match sizeO P t with
    | some n => match loadN g a.block a.off n with
      | some vs => some (.agg vs.toArray)
      | none => none
    | none => none
  | some false => match loadN g a.block a.off 1 with
    | some [v] => some v
    | _ => none
  | none => none

/-! ### Pure operations -/

/-- '<' and '==' of numbers, so that the kernel decides them where one side is known to be large enough. -/
def ltI : Int → Int → Bool
  | .ofNat a, .ofNat b => Nat.blt a b
  | .ofNat _, .negSucc _ => false
  | .negSucc _, .ofNat _ => true
  | .negSucc a, .negSucc b => Nat.blt b a
def eqI : Int → Int → Bool
  | .ofNat a, .ofNat b => Nat.beq a b
  | .ofNat _, .negSucc _ => false
  | .negSucc _, .ofNat _ => false
  | .negSucc a, .negSucc b => Nat.beq a b

def binI (op : BinOp) (k : IntKind) (a b : Int) : Option Value :=
  match op with
  | .add => some (.int k (k.wrap (a + b)))
  | .sub => some (.int k (k.wrap (a - b)))
  | .mul => some (.int k (k.wrap (a * b)))
  | .quo => if b = 0 then none else some (.int k (k.wrap (a.tdiv b)))
  | .rem => if b = 0 then none else some (.int k (a.tmod b))
  | .and => some (.int k (k.wrap (BitVec.ofInt k.bits a &&& BitVec.ofInt k.bits b).toNat))
  | .or => some (.int k (k.wrap (BitVec.ofInt k.bits a ||| BitVec.ofInt k.bits b).toNat))
  | .xor => some (.int k (k.wrap (BitVec.ofInt k.bits a ^^^ BitVec.ofInt k.bits b).toNat))
  | .andNot => some (.int k (k.wrap (BitVec.ofInt k.bits a &&& ~~~BitVec.ofInt k.bits b).toNat))
  | .eql => some (.bool (eqI a b))
  | .neq => some (.bool !(eqI a b))
  | .lss => some (.bool (ltI a b))
  | .leq => some (.bool !(ltI b a))
  | .gtr => some (.bool (ltI b a))
  | .geq => some (.bool !(ltI a b))
  | _ => none
def shiftI (op : BinOp) (k : IntKind) (a b : Int) : Option Value :=
  if b < 0 then none else
  match op with
  | .shl => some (.int k (k.wrap (a * 2 ^ min b.toNat k.bits)))
  | .shr => some (.int k (a.fdiv (2 ^ min b.toNat k.bits)))
  | _ => none
def isShift : BinOp → Bool
  | .shl | .shr => true
  | _ => false
def binS (op : BinOp) (a b : ByteArray) : Option Value :=
  match op with
  | .add => bif Nat.ble (a.size + b.size) 140737488355328 then some (.string (a ++ b)) else none
  | .eql => some (.bool (a.toList == b.toList))
  | .neq => some (.bool !(a.toList == b.toList))
  | .lss => some (.bool (Op.bytesLess a.toList b.toList))
  | .leq => some (.bool (Op.bytesLess a.toList b.toList || a.toList == b.toList))
  | .gtr => some (.bool !(Op.bytesLess a.toList b.toList || a.toList == b.toList))
  | .geq => some (.bool !(Op.bytesLess a.toList b.toList))
  | _ => none

/-- '==' of two values that are no ints and no strings. -/
def eqV (P : Program) (t : TypeId) (x y : Value) : Option Bool :=
  match P.underlying t, x, y with
  | some .bool, .bool a, .bool b => some (a == b)
  | some (.pointer _), .pointer none, .pointer b => some b.isNone
  | some (.pointer _), .pointer (some _), .pointer none => some false
  | some (.slice _), .slice none _ _, .slice b _ _ => some b.isNone
  | some (.slice _), .slice (some _) _ _, .slice none _ _ => some false
  | some (.map _ _), .map none, .map b => some b.isNone
  | some (.map _ _), .map (some _), .map none => some false
  | some (.func _ _ _), .nilFunc, .nilFunc => some true
  | some (.func _ _ _), .nilFunc, .func _ _ _ => some false
  | some (.func _ _ _), .func _ _ _, .nilFunc => some false
  | some (.interface ms), .nilIface, .nilIface => bif ms.isEmpty then some true else none
  | some (.interface _), .nilIface, .iface t _ => bif !(Nat.beq t rawT) then some false else none
  | some (.interface _), .iface t _, .nilIface => bif !(Nat.beq t rawT) then some false else none
  | _, _, _ => none

/-- '==' of two structs whose fields are numbers, strings and truth values. -/
def eqF (P : Program) (xs ys : Array Value) : List Field → Option Bool
  | [] => some true
  | f :: fs => bif f.name == "_" then none else
    match isAggO P f.type, P.underlying f.type, xs[f.offset]?, ys[f.offset]? with
    | some false, some (.int _), some (.int k a), some (.int k' b) => bif decide (k = k') then (bif eqI a b then eqF P xs ys fs else some false) else none
    | some false, some .string, some (.string a), some (.string b) => bif a.toList == b.toList then eqF P xs ys fs else some false
    | some false, some .bool, some (.bool a), some (.bool b) => bif a == b then eqF P xs ys fs else some false
    | _, _, _, _ => none
def eqS (P : Program) (t : TypeId) (xs ys : Array Value) : Option Bool :=
  match P.underlying t with
  | some (.struct fs) => bif !P.stoodInHeld t && !P.eqGuardType P.depth t then eqF P xs ys fs.toList else none
  | _ => none

def binV (P : Program) (op : BinOp) (t : TypeId) (x y : Value) : Option Value :=
  match x, y with
  | .int k a, .int k' b => bif isShift op then shiftI op k a b else bif decide (k = k') then binI op k a b else none
  | .string a, .string b => binS op a b
  | .agg xs, .agg ys => match op, eqS P t xs ys with
    | .eql, some b => some (.bool b)
    | .neq, some b => some (.bool !b)
    | _, _ => none
  | x, y => match op with
    | .eql => match eqV P t x y with
      | some b => some (.bool b)
      | none => none
    | .neq => match eqV P t x y with
      | some b => some (.bool !b)
      | none => none
    | _ => none

def unV (op : UnOp) (x : Value) : Option Value :=
  match op, x with
  | .not, .bool b => some (.bool !b)
  | .neg, .int k n => some (.int k (k.wrap (0 - n)))
  | .xor, .int k n => some (.int k (k.wrap (BitVec.ofInt k.bits (if k.signed then -1 else k.max) ^^^ BitVec.ofInt k.bits n).toNat))
  | _, _ => none

def boundO (s : Fr) (o : Option Operand) (d : Nat) : Option Nat :=
  match o with
  | none => some d
  | some o => match ev s o with
    | some v => natV v
    | none => none

def sliceO (P : Program) (t : TypeId) (x : Value) (s : Fr) (lo hi mx : Option Operand) : Option Value :=
  match P.underlying t, x with
  | some .string, .string b =>
    match mx, boundO s hi b.size, boundO s lo 0 with
    | none, some h, some l => bif Nat.ble l h && Nat.ble h b.size then some (.string (b.extract l h)) else none
    | _, _, _ => none
  | some (.slice e), .slice (some a) n c =>
    match a.spot, sizeO P e, boundO s mx c, boundO s hi n, boundO s lo 0 with
    | some sp, some z, some m, some h, some l =>
      bif Nat.ble l h && Nat.ble h m && Nat.ble m c && Nat.beq (sp / 2) z && (mx.isNone || hi.isSome) then
        some (.slice (some ⟨a.block, bif Nat.beq m l then a.off else a.off + l * z, some (bif mx.isSome then 2 * z + 1 else sp)⟩) (h - l) (m - l))
      else none
    | _, _, _, _, _ => none
  | some (.slice e), .slice none n c =>
    match sizeO P e, boundO s mx c, boundO s hi n, boundO s lo 0 with
    | some _, some m, some h, some l =>
      bif Nat.ble l h && Nat.ble h m && Nat.ble m c && (mx.isNone || hi.isSome) then some (.slice none (h - l) (m - l)) else none
    | _, _, _, _ => none
  | _, _ => none

def buildV (P : Program) (t : TypeId) (is : List Nat) (vs : List Value) : Option Value :=
  match zeroO P t, P.underlying t with
  | some z, some (.struct fs) =>
    bif fs.toList.all fun f => (P.info? f.type).isSome then
      match Instr.fill ((fs.map fun f => (f.offset, ((P.info? f.type).map (·.size)).getD 0))[·]?) z.cells (is.zip vs) with
      | some cs => some (.agg cs)
      | none => none
    else none
  | some z, some (.array _ e) => match sizeO P e with
    | some sz => match Instr.fill (fun i => some (i * sz, sz)) z.cells (is.zip vs) with
      | some cs => some (.agg cs)
      | none => none
    | none => none
  | _, _ => none

/-- More pure operations. -/
def execP2 (P : Program) (s : Fr) (op : Op) : Option Value :=
  match op with
  | .call c => match c.callee, evs s c.args.toList with
    | .builtin .min, some [.int k a, .int _ b] => some (.int k (bif ltI b a then b else a))
    | .builtin .max, some [.int k a, .int _ b] => some (.int k (bif ltI a b then b else a))
    | .builtin .cap, some [.slice b _ cp] => match c.argTypes[0]? with
      | some t => match P.underlying t with
        | some (.slice _) => match b with
          | none => some (goInt cp)
          | some a => match a.spot with
            | some sp => bif Nat.beq (sp % 2) 1 then some (goInt cp) else none
            | none => none
        | _ => none
      | none => none
    | _, _ => none
  | .typeAssert x _ at_ ok => match P.underlying at_, ev s x with
    | some (.interface _), _ => none
    | some _, some (.iface t v) => bif Nat.beq t at_ && !(Nat.beq t rawT) then some (bif ok then .tuple #[v, .bool true] else v) else none
    | _, _ => none
  | _ => none

def execP (P : Program) (s : Fr) (op : Op) : Option Value :=
  match op with
  | .move x | .assign x => ev s x
  | .pick c a b => match ev s c with
    | some (.bool true) => ev s a
    | some (.bool false) => ev s b
    | _ => none
  | .build t parts => match evs s (parts.toList.map (·.2)) with
    | some vs => buildV P t (parts.toList.map (·.1)) vs
    | none => none
  | .nilCheck x => match ev s x with
    | some (.pointer (some a)) => some (.pointer (some a))
    | some (.func (.func f) fs cs) => some (.func (.func f) fs cs)
    | _ => none
  | .binOp op t x y _ => match ev s x, ev s y with
    | some a, some b => binV P op t a b
    | _, _ => none
  | .unOp op _ x => match ev s x with
    | some a => unV op a
    | none => none
  | .makeInterface t x => match P.underlying t with
    | some (.interface _) => none
    | some _ => match ev s x with
      | some v => bif Nat.beq t rawT then none else some (.iface t v)
      | none => none
    | none => none
  | .makeFunc (.func f) first cap => match evs s first.toList, evs s cap.toList with
    | some fs, some cs => some (.func (.func f) fs.toArray cs.toArray)
    | _, _ => none
  | .slice t x lo hi mx => match ev s x with
    | some v => sliceO P t v s lo hi mx
    | none => none
  | .fieldAddr t x f => match ev s x with
    | some (.pointer (some a)) => match P.underlying t with
      | some (.struct fs) => match fs[f]? with
        | some g => match sizeO P g.type with
          | some (_ + 1) => bif a.spot.isSome then none else some (.pointer (some (addA a g.offset)))
          | _ => none
        | none => none
      | _ => none
    | _ => none
  | .field t x f => match ev s x with
    | some (.agg cs) => match P.underlying t with
      | some (.struct fs) => match fs[f]? with
        | some g => match isAggO P g.type, sizeO P g.type with
          | some true, some z => some (.agg (cs.extract g.offset (g.offset + z)))
          | some false, some _ => cs[g.offset]?
          | _, _ => none
        | none => none
      | _ => none
    | _ => none
  | .indexAddr t x i => match ev s x, ev s i with
    | some (.slice (some a) n _), some iv => match natV iv, P.underlying t, a.spot with
      | some j, some (.slice e), some sp => match sizeO P e with
        | some z => bif Nat.blt j n && Nat.beq (sp / 2) z then some (.pointer (some (addA a (j * z)))) else none
        | none => none
      | _, _, _ => none
    | some (.pointer (some a)), some iv => match natV iv, P.underlying t, a.spot with
      | some j, some (.array len e), none => match sizeO P e with
        | some z => bif Nat.blt j len then some (.pointer (some (addA a (j * z)))) else none
        | none => none
      | _, _, _ => none
    | _, _ => none
  | .index t x i => match ev s x, ev s i with
    | some (.string b), some iv => match natV iv, P.underlying t with
      | some j, some .string => match b[j]? with
        | some u => some (.int .u8 u.toNat)
        | none => none
      | _, _ => none
    | some (.agg cs), some iv => match natV iv, P.underlying t with
      | some j, some (.array len e) => match isAggO P e, sizeO P e with
        | some true, some z => bif Nat.blt j len then some (.agg (cs.extract (j * z) (j * z + z))) else none
        | some false, some z => bif Nat.blt j len then cs[j * z]? else none
        | _, _ => none
      | _, _ => none
    | _, _ => none
  | .extract x i => match ev s x with
    | some (.tuple vs) => vs[i]?
    | _ => none
  | op => execP2 P s op

/-! ### Operations that lay a new object -/

def execA (P : Program) (s : Fr) (op : Op) (nid : Nat) : Option (Value × AObj) :=
  match op with
  | .alloc e => match zeroO P e with
    | some z => some (.pointer (some ⟨nid, 0, none⟩), rowOf e z.cells.toList)
    | none => none
  | .box e x => match ev s x with
    | some v => some (.pointer (some ⟨nid, 0, none⟩), rowOf e v.cells.toList)
    | none => none
  | .buildSlice t len parts => match P.underlying t with
    | some (.slice e) => match sizeO P e, zeroO P e, evs s (parts.toList.map (·.2)) with
      | some z, some zero, some vs =>
        bif Nat.ble (len * z) 16777216 && Nat.beq zero.cells.size z && Nat.ble 1 z then
          match Instr.fill (fun i => some (i * z, z)) ((List.range (len * z)).map fun j => zero.cells.getD (j % z) undef).toArray ((parts.toList.map (·.1)).zip vs) with
          | some cs => some (.slice (some ⟨nid, 0, some (2 * z + 1)⟩) len len, rowOf e cs.toList)
          | none => none
        else none
      | _, _, _ => none
    | _ => none
  | .makeMap t r => match r with
    | none => some (.map (some nid), .map [] 0)
    | some r => match P.underlying t, ev s r with
      | some (.map _ _), some (.int _ _) => some (.map (some nid), .map [] 0)
      | _, _ => none
  | .makeSlice t l c => match P.underlying t with
    | some (.slice e) => match sizeO P e, bytesO P e, zeroO P e, ev s l, ev s c with
      | some z, some bs, some zero, some lv, some cv => match natV lv, natV cv with
        | some l, some c =>
          bif Nat.ble l c && Nat.ble c 140737488355328 && Nat.ble (c * bs) 140737488355328 && Nat.beq zero.cells.size z && Nat.ble 1 z then
            some (.slice (some ⟨nid, 0, some (2 * z + 1)⟩) l c, rowOf e ((List.range (c * z)).map fun j => zero.cells.getD (j % z) undef))
          else none
        | _, _ => none
      | _, _, _, _, _ => none
    | _ => none
  | .convert src dst x => match P.underlying src, P.underlying dst, ev s x with
    | some .string, some (.slice e), some (.string b) => match P.underlying e, sizeO P e with
      | some (.int .u8), some 1 =>
        bif Nat.ble b.size 140737488355328 then some (.slice (some ⟨nid, 0, some 2⟩) b.size b.size, rowOf e (b.data.toList.map fun u => .int .u8 u.toNat)) else none
      | _, _ => none
    | _, _, _ => none
  | _ => none

/-! ### Operations that read the heap -/

def bytesOf : List Value → Option (List UInt8)
  | [] => some []
  | .int .u8 n :: r => match bytesOf r with
    | some l => some (UInt8.ofNat n.toNat :: l)
    | none => none
  | _ => none

def plainKey : TypeDesc → Bool
  | .int _ | .string | .bool => true
  | _ => false

def execR (P : Program) (s : Fr) (g : Nat → Option AObj) (op : Op) : Option Value :=
  match op with
  | .load t x => match ev s x with
    | some (.pointer (some a)) => loadT P g t a
    | _ => none
  | .lookup t x k ok => match P.underlying t, ev s x, ev s k with
    | some (.map kt e), some m, some kv => match P.underlying kt, zeroO P e with
      | some d, some z => bif plainKey d then
          match (match m with
            | .map none => some none
            | .map (some r) => match g r with
              | some (.map es _) => Instr.findNow d kv es 0
              | _ => none
            | _ => none) with
          | some (some p) => some (bif ok then .tuple #[p.2, .bool true] else p.2)
          | some none => some (bif ok then .tuple #[z, .bool false] else z)
          | none => none
        else none
      | _, _ => none
    | _, _, _ => none
  | .convert src dst x => match P.underlying src, P.underlying dst, ev s x with
    | some _, some (.int k), some (.int _ n) => some (.int k (k.wrap n))
    | some _, some .string, some (.string b) => some (.string b)
    | some (.slice _), some (.slice e), some (.slice (some a) n c) => match P.underlying e, g a.block with
      | some (.int .u8), some (.row _ _ e') => bif Nat.beq src dst && !(Nat.beq e' roT) then some (.slice (some a) n c) else none
      | _, _ => none
    | some (.slice e), some .string, some (.slice none _ _) => match P.underlying e with
      | some (.int .u8) => some (.string .empty)
      | _ => none
    | some (.slice e), some .string, some (.slice (some a) n _) => match P.underlying e, loadN g a.block a.off n with
      | some (.int .u8), some vs => match bytesOf vs with
        | some l => some (.string ⟨l.toArray⟩)
        | none => none
      | _, _ => none
    | _, _, _ => none
  | .call c => match c.callee with
    | .builtin .len => match c.argTypes[0]?, c.args[0]? with
      | some t, some x => match P.underlying t, ev s x with
        | some .string, some (.string b) => some (goInt b.size)
        | some (.slice _), some (.slice _ n _) => some (goInt n)
        | some (.map _ _), some (.map none) => some (goInt 0)
        | some (.map _ _), some (.map (some r)) => match g r with
          | some (.map es _) => some (goInt es.length)
          | _ => none
        | _, _ => none
      | _, _ => none
    | _ => none
  | _ => none

/-! ### Operations that act -/

inductive ANext where
  | val (v : Value) (h : H)
  | skip (h : H)
  | enter (f : FuncId) (args : List Value)

/-- What is appended. -/
def newOf (h : H) (z : Nat) (x : Value) : Option (Nat × List Value) :=
  match x with
  | .slice (some b) m _ => match loadN h.obj b.block b.off (m * z) with
    | some vs => some (m, vs)
    | none => none
  | .slice none m _ => bif Nat.beq m 0 then some (0, []) else none
  | .string b => bif Nat.beq z 1 then some (b.size, b.data.toList.map fun u => Value.int .u8 u.toNat) else none
  | _ => none

def notInt : TypeDesc → Bool
  | .int _ => false
  | _ => true

def appendV (P : Program) (t t1 : TypeId) (sv x : Value) (h : H) : Option (Value × H) :=
  match P.underlying t, P.underlying t1, sv with
  | some (.slice e), some d1, .slice base n c =>
    bif notInt d1 then
    match sizeO P e, bytesO P e, zeroO P e with
    | some z, some bs, some zero =>
      bif Nat.beq zero.cells.size z && Nat.ble 1 z then
      match newOf h z x with
      | none => none
      | some (m, new) =>
        match base with
        | none => bif Nat.beq n 0 && Nat.beq c 0 then
            bif Nat.beq m 0 then some (.slice none 0 0, h)
            else bif Nat.ble m 1099511627776 && Nat.ble (m * bs) 140737488355328 then
              some (.slice (some ⟨h.next, 0, some (2 * z)⟩) m m, h.new (rowOf e new))
            else none
          else none
        | some a => match a.spot with
          | none => none
          | some sp => bif Nat.beq (sp / 2) z then
              bif Nat.ble (n + m) c then
                match storeN h a.block (a.off + n * z) new with
                | some h' => some (.slice (some a) (n + m) c, h')
                | none => none
              else bif Nat.ble (n + m) 1099511627776 && Nat.ble ((n + m) * bs) 140737488355328 && new.all Value.oneCell' then
                match (match n with | 0 => some [] | _ => loadN h.obj a.block a.off (n * z)), h.obj a.block with
                | some old, some (.row _ _ e') =>
                  bif Nat.beq (sp % 2) 1 || !(Nat.beq e' roT) then
                    some (.slice (some ⟨h.next, 0, some (2 * z)⟩) (n + m) (n + m), (bif Nat.beq (sp % 2) 1 then h else h.upd a.block .dead).new (rowOf e (old ++ new)))
                  else none
                | _, _ => none
              else none
            else none
      else none
    | _, _, _ => none
    else none
  | _, _, _ => none

/-- What a step of a range over a map finds, where there is no choice: none: it is over. -/
def stepI (es : List MapEntry) (since : Nat) (seen : List Nat) (last : Nat) : Option (Option MapEntry) :=
  bif seen.isEmpty || es.isEmpty || !(es.all fun e => Nat.ble last e.born) then
    match es.filter (fun e => !seen.any (Nat.beq e.born)) with
    | [] => some none
    | [e] => bif Nat.blt e.born since then some (some e) else none
    | _ => none
  else none

/-- The first cells of what is copied. -/
def firstOf (h : H) (z n : Nat) (x : Value) : Option (List Value) :=
  match x with
  | .slice (some b) _ _ => loadN h.obj b.block b.off (n * z)
  | .slice none _ _ => bif Nat.beq n 0 then some [] else none
  | .string b => bif Nat.beq z 1 then some ((b.extract 0 n).data.toList.map fun u => Value.int .u8 u.toNat) else none
  | _ => none
def lenV (x : Value) : Option Nat :=
  match x with
  | .slice _ n _ => some n
  | .string b => some b.size
  | _ => none

/-- More operations that act. -/
def execE2 (P : Program) (s : Fr) (h : H) (op : Op) : Option ANext :=
  match op with
  | .call c => match c.callee, c.argTypes[0]?, evs s c.args.toList with
    | .builtin .copy, some t, some [.slice (some a) n _, x] => match P.underlying t, lenV x with
      | some (.slice e), some m => match sizeO P e, a.spot with
        | some z, some sp => bif Nat.beq (sp / 2) z && Nat.ble 1 (Nat.min m n) then
            match firstOf h z (Nat.min m n) x with
            | some vs => match storeN h a.block a.off vs with
              | some h' => some (.val (goInt (Nat.min m n)) h')
              | none => none
            | none => none
          else bif Nat.beq (Nat.min m n) 0 then some (.val (goInt 0) h) else none
        | _, _ => none
      | _, _ => none
    | .builtin .clear, some t, some [.map (some r)] => match P.underlying t, h.obj r with
      | some (.map _ _), some (.map _ cl) => some (.val (.tuple #[]) (h.upd r (.map [] cl)))
      | _, _ => none
    | _, _, _ => none
  | .range t x => match P.underlying t, ev s x with
    | some .string, some (.string b) => some (.val (.pointer (some ⟨h.next, 0, none⟩)) (h.new (.siter b 0)))
    | some (.map _ _), some (.map none) => some (.val (.pointer (some ⟨h.next, 0, none⟩)) (h.new (.iter none 0 [] 0)))
    | some (.map _ _), some (.map (some r)) => match h.obj r with
      | some (.map _ cl) => some (.val (.pointer (some ⟨h.next, 0, none⟩)) (h.new (.iter (some r) cl [] cl)))
      | _ => none
    | _, _ => none
  | .next x str => match ev s x with
    | some (.pointer (some a)) => bif Nat.beq a.off 0 then
        match h.obj a.block, str with
        | some (.siter b pos), true => bif Nat.blt pos b.size then
            some (.val (.tuple #[.bool true, goInt pos, .int .i32 (Utf8.decode b pos).1]) (h.upd a.block (.siter b (pos + (Utf8.decode b pos).2))))
          else some (.val (.tuple #[.bool false]) h)
        | some (.iter none _ _ _), false => some (.val (.tuple #[.bool false]) h)
        | some (.iter (some m) since seen last), false => match h.obj m with
          | some (.map es cl) => match stepI es since seen last with
            | some (some e) => some (.val (.tuple #[.bool true, e.key, e.val]) (h.upd a.block (.iter (some m) since (seen ++ [e.born]) cl)))
            | some none => some (.val (.tuple #[.bool false]) h)
            | none => none
          | _ => none
        | _, _ => none
      else none
    | _ => none
  | _ => none

def mapUpd (P : Program) (s : Fr) (h : H) (t : TypeId) (x k y : Operand) : Option ANext :=
  match P.underlying t, ev s x, ev s k, ev s y with
    | some (.map kt _), some (.map (some r)), some kv, some v => match P.underlying kt, h.obj r with
      | some d, some (.map es cl) => bif plainKey d then
          match Instr.findNow d kv es 0 with
          | some (some p) => some (.skip (h.upd r (.map (es.modify p.1 fun e => { e with key := kv, val := v }) cl)))
          | some none => some (.skip (h.upd r (.map (es ++ [⟨kv, v, cl⟩]) (cl + 1))))
          | none => none
        else none
      | _, _ => none
    | _, _, _, _ => none

def execE (P : Program) (s : Fr) (h : H) (op : Op) : Option ANext :=
  match op with
  | .store t x y => match ev s x, ev s y with
    | some (.pointer (some a)), some v => match sizeO P t with
      | some n => bif Nat.beq v.cells.size n && a.spot.isNone then
          match storeN h a.block a.off v.cells.toList with
          | some h => some (.skip h)
          | none => none
        else none
      | none => none
    | _, _ => none
  | .mapUpdate t x k y | .insert t x k y => mapUpd P s h t x k y
  | .call c => match c.callee with
    | .value f => match ev s f, evs s c.args.toList with
      | some (.func (.func g) first cap), some vs => some (.enter g (first.toList ++ vs ++ cap.toList))
      | _, _ => none
    | .builtin .append => match c.argTypes[0]?, c.argTypes[1]?, evs s c.args.toList with
      | some t, some t1, some [sv, x] => match appendV P t t1 sv x h with
        | some (v, h) => some (.val v h)
        | none => none
      | _, _, _ => none
    | .builtin .delete => match c.argTypes[0]?, evs s c.args.toList with
      | some t, some [.map (some r), kv] => match P.underlying t, h.obj r with
        | some (.map kt _), some (.map es cl) => match P.underlying kt with
          | some d => bif plainKey d then
              match Instr.findNow d kv es 0 with
              | some (some p) => some (.val (.tuple #[]) (h.upd r (.map (es.eraseIdx p.1) cl)))
              | some none => some (.val (.tuple #[]) h)
              | none => none
            else none
          | none => none
        | _, _ => none
      | _, _ => none
    | _ => execE2 P s h (.call c)
  | op => execE2 P s h op

/-- 0: pure; 1: it lays one new object; 2: it reads; 3: it acts. -/
def cls (P : Program) : Op → Nat
  | .alloc _ | .box _ _ | .buildSlice _ _ _ | .makeMap _ _ | .makeSlice _ _ _ => 1
  | .load _ _ | .lookup _ _ _ _ => 2
  | .convert src dst _ => match P.underlying src, P.underlying dst with
    | some .string, some (.slice _) => 1
    | _, _ => 2
  | .call { callee := .builtin .len, .. } => 2
  | .call { callee := .builtin .min, .. } | .call { callee := .builtin .max, .. } | .call { callee := .builtin .cap, .. } => 0
  | .call _ | .store _ _ _ | .mapUpdate _ _ _ _ | .insert _ _ _ _ | .range _ _ | .next _ _ => 3
  | _ => 0

def exec (P : Program) (s : Fr) (h : H) (op : Op) : Option ANext :=
  match cls P op with
  | 0 => match execP P s op with
    | some v => some (.val v h)
    | none => none
  | 1 => match execA P s op h.next with
    | some (v, o) => some (.val v (h.new o))
    | none => none
  | 2 => match execR P s h.obj op with
    | some v => some (.val v h)
    | none => none
  | _ => execE P s h op

end Go.Proofs.YtdocmpnofklaoaaGreatDoor.Ev

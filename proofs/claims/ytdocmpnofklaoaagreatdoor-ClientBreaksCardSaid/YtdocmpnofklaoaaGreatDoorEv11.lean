/- The evaluator: code, calls, and statements whose order Go leaves open. -/
import Derived.Test.YtdocmpnofklaoaaGreatDoorEv10
import Derived.Laws.Externs
namespace Go.Proofs.YtdocmpnofklaoaaGreatDoor.Ev
open Go

inductive AEx where
  | normal
  | exit (id : Nat)
  | ret

abbrev Res := Except String (AEx × Fr × H)
/-- What is known below: of code, and of calls that were shown by other means. -/
structure Ih where
  c : Code → Fr → H → Res
  k : FuncId → List Value → H → Option (Value × H)
  /-- Code within a round of a range over a function. -/
  r : Code → Fr → H → Res
instance : CoeFun Ih (fun _ => Code → Fr → H → Res) := ⟨Ih.c⟩

/-- Is it known whether an operation is wanted? -/
def guardOk (all : Array Oper) (s : Fr) (o : Oper) : Bool :=
  match o.guard with
  | none => true
  | some (j, _) => match (all[j]?).bind (·.dst) with
    | some d => known (s.get d)
    | none => true

def wantedA (all : Array Oper) (s : Fr) (o : Oper) : Bool :=
  match o.guard with
  | none => true
  | some (j, want) => match (all[j]?).bind (·.dst) with
    | some d => match s.get d with
      | .bool b => b == want
      | _ => false
    | none => false

def resultsA (P : Program) (s : Fr) (g : Nat → Option AObj) : List ResultVar → Option (List Value)
  | [] => some []
  | r :: rs => match (match r with
      | .tmp t => bif known (s.get t) then some (s.get t) else none
      | .cell p t => match s.get p with
        | .pointer (some a) => loadT P g t a
        | _ => none) with
    | none => none
    | some v => match resultsA P s g rs with
      | none => none
      | some vs => some (v :: vs)

def tupleA : List Value → Value
  | [v] => v
  | vs => .tuple vs.toArray

def isRecover (o : Oper) : Bool := match o.op with
  | .call c => match c.callee with
    | .builtin .recover => true
    | _ => false
  | _ => false

/-- The operations of a deferred function's own statement: 'recover' finds no panic. -/
def opsRunS (P : Program) (all : Array Oper) : List Oper → Fr → H → Except String (Fr × H)
  | [], s, h => .ok (s, h)
  | o :: l, s, h =>
    bif guardOk all s o then
    bif wantedA all s o then
      bif isRecover o then
        match s.put o.dst .nilIface with
        | some s' => opsRunS P all l s' h
        | none => .error o.pos
      else match exec P s h o.op with
        | some (.val v h') => match s.put o.dst v with
          | some s' => opsRunS P all l s' h'
          | none => .error o.pos
        | some (.skip h') => match s.put o.dst undef with
          | some s' => opsRunS P all l s' h'
          | none => .error o.pos
        | _ => .error o.pos
    else match s.put o.dst undef with
      | some s' => opsRunS P all l s' h
      | none => .error o.pos
    else .error o.pos

/-- A deferred function's code, where nothing panics. -/
def evalS (P : Program) (ih : Ih) : Code → Fr → H → Except String (AEx × Fr × H)
  | .seq a b, s, h => match evalS P ih a s h with
    | .ok (.normal, s, h) => evalS P ih b s h
    | r => r
  | .cond c x y, s, h => match ev s c with
    | some (.bool true) => evalS P ih x s h
    | some (.bool false) => evalS P ih y s h
    | _ => .error "cond"
  | .region _ ops false, s, h => match opsRunS P ops ops.toList s h with
    | .error e => .error e
    | .ok (s, h) => .ok (.normal, s, h)
  | c, s, h => ih c s h

def callD (P : Program) (ih : Ih) (f : FuncId) (args : List Value) (h : H) : Except String H :=
  match P.funcs[f]? with
  | none => .error "no such function"
  | some fn => match fn.body with
    | none => .error fn.name
    | some body =>
      bif Nat.ble args.length fn.ntmps && !(fn.name == "runtime.NumGoroutine") then
        match evalS P ih body ⟨T.ofListFrom .nil 0 args, fn.ntmps, []⟩ h with
        | .error e => .error e
        | .ok (.exit _, _, _) => .error "exit"
        | .ok (_, s', h') => match s'.df, resultsA P s' h'.obj fn.results.toList with
          | [], some _ => .ok h'
          | _, _ => .error ("results of " ++ fn.name)
      else .error fn.name

def runDefers (P : Program) (ih : Ih) : List (Option (FuncId × List Value)) → H → Except String H
  | [], h => .ok h
  | none :: ds, h => runDefers P ih ds h
  | some d :: ds, h => match callD P ih d.1 d.2 h with
    | .error e => .error e
    | .ok h' => runDefers P ih ds h'

def callA (P : Program) (ih : Ih) (f : FuncId) (args : List Value) (h : H) : Except String (Value × H) :=
  match ih.k f args h with
  | some r => .ok r
  | none => match P.funcs[f]? with
  | none => .error "no such function"
  | some fn => match fn.body with
    | none => .error fn.name
    | some body =>
      bif Nat.ble args.length fn.ntmps && !(fn.name == "runtime.NumGoroutine") then
        match ih body ⟨T.ofListFrom .nil 0 args, fn.ntmps, []⟩ h with
        | .error e => .error e
        | .ok (.exit _, _, _) => .error "exit"
        | .ok (_, s', h') => match runDefers P ih s'.df h' with
          | .error e => .error e
          | .ok h'' => match resultsA P s' h''.obj fn.results.toList with
            | some vs => .ok (tupleA vs, h'')
            | none => .error ("results of " ++ fn.name)
      else .error fn.name

/-- A call that is put off. -/
def deferA (s : Fr) (o : Oper) : Option (FuncId × List Value) :=
  match o.op with
  | .defer c => match c.callee with
    | .value f => match ev s f, evs s c.args.toList with
      | some (.func (.func g) first cap), some vs => some (g, first.toList ++ vs ++ cap.toList)
      | _, _ => none
    | _ => none
  | _ => none

/-- Functions of the model's own, of plain arguments. -/
def extV (name : String) (args : List Value) : Option Value :=
  match args with
  | [.string s, .int .u8 c] => bif name == "internal/bytealg.IndexByteString" then some (.int .i64 (firstIdx s c.toNat.toUInt8)) else none
  | _ => none
def extA (P : Program) (f : FuncId) (args : List Value) : Option Value :=
  match P.funcs[f]? with
  | some fn => bif fn.body.isNone && (fn.origin == fn.name || fn.origin == "") then extV fn.name args else none
  | none => none

/-- One operation: its value. -/
def opV (P : Program) (ih : Ih) (all : Array Oper) (o : Oper) (s : Fr) (h : H) : Except String (Value × H) :=
  bif guardOk all s o then
  bif wantedA all s o then
    match exec P s h o.op with
    | none => .error o.pos
    | some (.val v h) => .ok (v, h)
    | some (.skip h) => .ok (undef, h)
    | some (.enter f args) => match extA P f args with
      | some v => .ok (v, h)
      | none => callA P ih f args h
  else .ok (undef, h)
  else .error o.pos

/-! ### Rounds of a range over a function -/

/-- A call of 'yield'. -/
structure YC where
  b : Nat
  tm : T Value
  nt : Nat
  ps : List Tmp
  asg : Code
  body : Code
  vs : List Value

def yieldIn (s : Fr) (h : H) (f : Operand) (args : List Operand) : Option YC :=
  match ev s f with
  | some (.func (.yield b) _ _) => match h.obj b with
    | some (.loop _ _ tm nt ps asg body) => match evs s args with
      | some vs => some ⟨b, tm, nt, ps, asg, body, vs⟩
      | none => none
    | _ => none
  | _ => none
def yieldOf (s : Fr) (h : H) (o : Oper) : Option YC :=
  match o.op with
  | .call c => match c.callee with
    | .value f => yieldIn s h f c.args.toList
    | _ => none
  | _ => none

def putArgs (s : Fr) : List Tmp → List Value → Option Fr
  | [], [] => some s
  | t :: ts, v :: vs => match s.put (some t) v with
    | some s' => putArgs s' ts vs
    | none => none
  | _, _ => none

def jumpOf : AEx → Option Code
  | .normal => none
  | .exit id => some (.exit id)
  | .ret => some .ret

def endA (b : Nat) (ex : AEx) (h : H) : Except String (Value × H) :=
  match h.obj b with
  | some (.loop _ _ tm nt ps asg body) => match jumpOf ex with
    | none => .ok (.bool true, h.upd b (.loop .ready none tm nt ps asg body))
    | some j => .ok (.bool false, h.upd b (.loop .done (some j) tm nt ps asg body))
  | _ => .error "round: its end"

def beginA (ih : Ih) (y : YC) (s : Fr) (h : H) : Except String (Value × H) :=
  match h.obj y.b with
  | some (.loop .ready pend tm nt ps asg body) => match ih.r y.body s (h.upd y.b (.loop .busy pend tm nt ps asg body)) with
    | .ok (ex, _, h2) => endA y.b ex h2
    | .error e => .error e
  | _ => .error "round: not ready"

def roundA (ih : Ih) (y : YC) (h : H) : Except String (Value × H) :=
  match putArgs ⟨y.tm, y.nt, []⟩ y.ps y.vs with
  | none => .error "round: parameters"
  | some s0 => match ih.r y.asg s0 h with
    | .ok (.normal, s1, h1) => beginA ih y s1 h1
    | .ok _ => .error "round: left sides"
    | .error e => .error e

/-- One operation, in a statement whose order is the text's. -/
def opY (P : Program) (ih : Ih) (all : Array Oper) (o : Oper) (s : Fr) (h : H) : Except String (Value × H) :=
  match yieldOf s h o with
  | none => opV P ih all o s h
  | some y => bif guardOk all s o && wantedA all s o then roundA ih y h else opV P ih all o s h

/-- Behind a range over a function. -/
def afterA (s : Fr) (b : Nat) (h : H) : Res :=
  match h.obj b with
  | some (.loop .busy _ _ _ _ _ _) => .error "range: busy"
  | some (.loop _ pend _ _ _ _ _) => match pend with
    | none => .ok (.normal, ⟨s.tm, s.nt, none :: s.df⟩, h.upd b .dead)
    | some .ret => .ok (.ret, ⟨s.tm, s.nt, none :: s.df⟩, h.upd b .dead)
    | some (.exit id) => .ok (.exit id, ⟨s.tm, s.nt, none :: s.df⟩, h.upd b .dead)
    | _ => .error "range: pending"
  | _ => .error "range: no record"

def opsRun (P : Program) (ih : Ih) (all : Array Oper) : List Oper → Fr → H → Except String (Fr × H)
  | [], s, h => .ok (s, h)
  | o :: l, s, h => match deferA s o with
    | some d => bif guardOk all s o && (wantedA all s o && o.dst.isNone) then opsRun P ih all l ⟨s.tm, s.nt, some d :: s.df⟩ h else .error o.pos
    | none => match opY P ih all o s h with
      | .error e => .error e
      | .ok (v, h') => match s.put o.dst v with
        | none => .error o.pos
        | some s' => opsRun P ih all l s' h'

def opsTrace (P : Program) (ih : Ih) (all : Array Oper) : List Oper → Fr → H → Except String (List (Fr × H))
  | [], s, h => .ok [(s, h)]
  | o :: l, s, h => match opV P ih all o s h with
    | .error e => .error e
    | .ok (v, h') => match s.put o.dst v with
      | none => .error o.pos
      | some s' => match opsTrace P ih all l s' h' with
        | .error e => .error e
        | .ok r => .ok ((s, h) :: r)

/-! ### An open order -/

def bindsB (e : Edge) : Bool := match e.ground with | .textOnly _ | .gcOnly _ => false | _ => true
/-- What binds an operation, whatever the order. -/
def bnd (o : Oper) : List Edge := o.after.toList.filter bindsB

def befGo : List Nat → List Oper → List Nat
  | acc, [] => acc
  | acc, o :: l => befGo (acc ++ [(bnd o).foldl (fun m e => m ||| 2 ^ e.on ||| acc.getD e.on 0) 0]) l
def befs (ops : Array Oper) : List Nat := befGo [] ops.toList

def edgeOk (i : Nat) (e : Edge) : Bool := bindsB e && Nat.blt e.on i

/-- The temporaries that an operation looks at. -/
def looksA (all : Array Oper) (o : Oper) : List Nat :=
  (o.op.operands.toList.filterMap fun | .tmp t => some t | _ => none) ++
    (match o.guard with | none => [] | some (j, _) => match (all[j]?).bind (·.dst) with | some d => [d] | none => [])

def dstIn (d : Option Tmp) (l : List Nat) : Bool :=
  match d with
  | some d => l.any (Nat.beq d)
  | none => false
def sameDst (d e : Option Tmp) : Bool :=
  match d, e with
  | some d, some e => Nat.beq d e
  | _, _ => false

def pairsOk (P : Program) (all : Array Oper) (bf : List Nat) (i : Nat) (o : Oper) : Bool :=
  (List.range i).all fun j => match all[j]? with
    | none => false
    | some p => (bf.getD i 0).testBit j ||
        !(dstIn p.dst (looksA all o) || dstIn o.dst (looksA all p) || sameDst p.dst o.dst || (Nat.beq (cls P p.op) 3 && Nat.beq (cls P o.op) 3))

def drawStatic (P : Program) (ops : Array Oper) : Bool :=
  (List.range ops.size).all fun i => match ops[i]? with
    | none => false
    | some o => (bnd o).all (edgeOk i) && pairsOk P ops (befs ops) i o

/-- The block that a reading operation reads. -/
def rdBlk (s : Fr) (op : Op) : Option Nat :=
  match op with
  | .load _ x => match ev s x with
    | some (.pointer (some a)) => some a.block
    | _ => none
  | .lookup _ x _ _ => match ev s x with
    | some (.map (some r)) => some r
    | _ => none
  | .convert _ _ x => match ev s x with
    | some (.slice (some a) _ _) => some a.block
    | _ => none
  | .call c => match c.args[0]? with
    | some x => match ev s x with
      | some (.map (some r)) => some r
      | _ => none
    | none => none
  | _ => none

def verAt (h : H) (b : Nat) : Option Nat := match h.objs.get b with
  | some c => some c.ver
  | none => none

def verSame (sts : List (Fr × H)) (r : Nat) (o : Oper) (e : Nat) : Bool :=
  match sts[r]?, sts[bif Nat.blt r e then e + 1 else e]? with
  | some (s, h), some (_, h') => match rdBlk s o.op with
    | none => true
    | some b => match verAt h b, verAt h' b with
      | some x, some y => Nat.beq x y
      | _, _ => false
  | _, _ => false

def drawDyn (P : Program) (ops : Array Oper) (sts : List (Fr × H)) : Bool :=
  (List.range ops.size).all fun r => match ops[r]? with
    | none => false
    | some o => !(Nat.beq (cls P o.op) 2) || (List.range ops.size).all fun e => match ops[e]? with
      | none => false
      | some p => !(Nat.beq (cls P p.op) 3) || ((befs ops).getD e 0).testBit r || ((befs ops).getD r 0).testBit e || verSame sts r o e

def isDefer (o : Oper) : Bool := match o.op with
  | .defer _ => true
  | _ => false

/-- Code within a round: no deferred calls, no further range over a function, no open order. -/
def stepR (P : Program) (ih : Ih) (c : Code) (s : Fr) (h : H) : Res :=
  match c with
  | .skip | .label _ => .ok (.normal, s, h)
  | .region _ ops false => bif ops.toList.any isDefer then .error "round: defer" else match opsRun P ih ops ops.toList s h with
    | .error e => .error e
    | .ok (s, h) => .ok (.normal, s, h)
  | .region _ ops true => .error (((ops[0]?).map (·.pos)).getD "" ++ " round: order")
  | .seq a b => match ih.r a s h with
    | .ok (.normal, s, h) => ih.r b s h
    | r => r
  | .cond c x y => match ev s c with
    | some (.bool true) => ih.r x s h
    | some (.bool false) => ih.r y s h
    | _ => .error "cond"
  | .block id c => match ih.r c s h with
    | .ok (.exit id', s, h) => bif Nat.beq id' id then .ok (.normal, s, h) else .ok (.exit id', s, h)
    | r => r
  | .loop c => match ih.r c s h with
    | .ok (.normal, s, h) => ih.r (.loop c) s h
    | r => r
  | .exit id => .ok (.exit id, s, h)
  | .ret => .ok (.ret, s, h)
  | .scope _ => .error "scope"
  | .goto _ => .error "goto"
  | .rangeFunc _ _ _ _ => .error "round: range"
  | .refuse why => .error why

def stepE (P : Program) (ih : Ih) : Ih := ⟨fun c s h =>
  match c with
  | .skip | .label _ => .ok (.normal, s, h)
  | .region _ ops false => match opsRun P ih ops ops.toList s h with
    | .error e => .error e
    | .ok (s, h) => .ok (.normal, s, h)
  | .region _ ops true =>
    bif drawStatic P ops then
      match opsTrace P ih ops ops.toList s h with
      | .error e => .error e
      | .ok sts => bif drawDyn P ops sts then
          match sts.getLast? with
          | some (s, h) => .ok (.normal, s, h)
          | none => .error "trace"
        else .error (((ops[0]?).map (·.pos)).getD "" ++ " order: dynamic")
    else .error (((ops[0]?).map (·.pos)).getD "" ++ " order: static")
  | .seq a b => match ih a s h with
    | .ok (.normal, s, h) => ih b s h
    | r => r
  | .cond c x y => match ev s c with
    | some (.bool true) => ih x s h
    | some (.bool false) => ih y s h
    | _ => .error "cond"
  | .block id c => match ih c s h with
    | .ok (.exit id', s, h) => bif Nat.beq id' id then .ok (.normal, s, h) else .ok (.exit id', s, h)
    | r => r
  | .loop c => match ih c s h with
    | .ok (.normal, s, h) => ih (.loop c) s h
    | r => r
  | .exit id => .ok (.exit id, s, h)
  | .ret => .ok (.ret, s, h)
  | .scope _ => .error "scope"
  | .goto _ => .error "goto"
  | .rangeFunc g ps asg body => match ev s g with
    | some (.func (.func f) first cap) => match callA P ih f (first.toList ++ .func (.yield h.next) #[] #[] :: cap.toList) (h.new (.loop .ready none s.tm s.nt ps.toList asg body)) with
      | .ok (_, h1) => afterA s h.next h1
      | .error e => .error e
    | _ => .error "range over what"
  | .refuse why => .error why, ih.k, stepR P ih⟩

noncomputable def evalK (P : Program) (K : FuncId → List Value → H → Option (Value × H)) (n : Nat) : Ih :=
  Nat.rec (motive := fun _ => Ih) ⟨fun _ _ _ => .error "fuel", K, fun _ _ _ => .error "fuel"⟩ (fun _ ih => stepE P ih) n
/-- No call is known. -/
def noK : FuncId → List Value → H → Option (Value × H) := fun _ _ _ => none
noncomputable def eval (P : Program) (n : Nat) : Ih := evalK P noK n

noncomputable def callE (P : Program) (n : Nat) (f : FuncId) (args : List Value) (h : H) : Except String (Value × H) := callA P (eval P n) f args h

end Go.Proofs.YtdocmpnofklaoaaGreatDoor.Ev

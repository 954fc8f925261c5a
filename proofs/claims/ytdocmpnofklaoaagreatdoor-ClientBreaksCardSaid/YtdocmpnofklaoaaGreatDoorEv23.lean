/- The guided evaluator: code and calls; what it comes to, the evaluator comes to, where what it says must hold holds. -/
import Derived.Test.YtdocmpnofklaoaaGreatDoorEv22
namespace Go.Proofs.YtdocmpnofklaoaaGreatDoor.Ev
open Go
set_option linter.unusedSimpArgs false

def CallOk (P : Program) (f : FuncId) (args : List Value) (h : H) (v : Value) (h' : H) : Prop := SemCall P f args h v h' ∧ AExt h h'

/-- What is known of a function by other means: what must hold at a call, what comes of it. -/
structure Con where
  pre : List Value → H → Prop
  res : List Value → H → Value × H

def Con.Ok (P : Program) (f : FuncId) (c : Con) : Prop := ∀ args h, c.pre args h → CallOk P f args h (c.res args h).1 (c.res args h).2

/-- Functions of which something is known: at one clock (less one), or (0) at any. -/
abbrev KT := List (FuncId × Nat × Con)

def ktFind : KT → FuncId → Nat → Option Con
  | [], _, _ => none
  | (f, c, g) :: l, f', c' => bif Nat.beq f f' && (Nat.beq c 0 || Nat.beq c (c' + 1)) then some g else ktFind l f' c'

def KTOk (P : Program) (kt : KT) : Prop := ∀ e ∈ kt, e.2.2.Ok P e.1

theorem ktFind_mem : ∀ {kt : KT} {f c : Nat} {g : Con}, ktFind kt f c = some g → ∃ k, (f, k, g) ∈ kt
  | [], _, _, _, h => by cases h
  | (f0, c0, g0) :: l, f, c, g, h => by
    simp only [ktFind] at h
    rcases cond_or h with ⟨hb, h⟩ | ⟨_, h⟩
    · simp only [Option.some.injEq] at h; subst h
      simp only [Bool.and_eq_true] at hb
      have := Nat.eq_of_beq_eq_true hb.1; subst this
      exact ⟨c0, List.mem_cons_self⟩
    · obtain ⟨k, hk⟩ := ktFind_mem h
      exact ⟨k, List.mem_cons_of_mem _ hk⟩

open Classical in
noncomputable def ktK (kt : KT) : FuncId → List Value → H → Option (Value × H) := fun f args h =>
  match ktFind kt f h.clk with
  | some g => if g.pre args h then some (g.res args h) else none
  | none => none

theorem ktK_knows {P : Program} {kt : KT} (hkt : KTOk P kt) : Knows P (ktK kt) := by
  have key : ∀ f args h v h', ktK kt f args h = some (v, h') → CallOk P f args h v h' := by
    intro f args h v h' he
    unfold ktK at he
    split at he
    · rename_i g hg
      split at he
      · rename_i hok
        obtain ⟨k, hk⟩ := ktFind_mem hg
        have := hkt _ hk args h hok
        have e : g.res args h = (v, h') := by simpa using he
        rw [e] at this; exact this
      · cases he
    · cases he
  exact ⟨fun f args h v h' he => (key f args h v h' he).2, fun f args h v h' he => (key f args h v h' he).1⟩

abbrev GRes := Except String (AEx × Fr × H × O)
abbrev Ihg := Code → Fr → H → O → GRes

def O.and (o : O) (p : Prop) : O := match o with | ⟨orc, n, ob⟩ => ⟨orc, n, ob ∧ p⟩

section
variable (P : Program) (kt : KT) (ih : Ih) (ihg : Ihg)

def callG (f : FuncId) (args : List Value) (h : H) (o : O) : Except String (Value × H × O) :=
  match ktFind kt f h.clk with
  | some g => match g.res args h with
    | (v, h') => .ok (v, h', o.and (g.pre args h))
  | none => match P.funcs[f]? with
    | none => .error "no such function"
    | some fn => match fn.body with
      | none => .error fn.name
      | some body =>
        bif Nat.ble args.length fn.ntmps && !(fn.name == "runtime.NumGoroutine") then
          match ihg body ⟨T.ofListFrom .nil 0 args, fn.ntmps, []⟩ h o with
          | .error e => .error e
          | .ok (.exit _, _, _, _) => .error "exit"
          | .ok (_, s', h', o') => match runDefers P ih s'.df h' with
            | .error e => .error e
            | .ok h'' => match resultsA P s' h''.obj fn.results.toList with
              | some vs => .ok (tupleA vs, h'', o')
              | none => .error ("results of " ++ fn.name)
        else .error fn.name

/-- What an operation is told, and what is told later. -/
def O.ask (o : O) : Option Orc × O := match o with
  | ⟨[], n, ob⟩ => (none, ⟨[], n, ob⟩)
  | ⟨(k, g) :: l, n, ob⟩ => bif Nat.beq k n then (some g, ⟨l, n + 1, ob⟩) else (none, ⟨(k, g) :: l, n + 1, ob⟩)

def nextG (_ : Oper) (r : ANext) (h : H) (o : O) : Except String (Value × H × O) :=
  match r with
  | .val v h => .ok (v, h, o)
  | .skip h => .ok (undef, h, o)
  | .enter f args => match extA P f args with
    | some v => .ok (v, h, o)
    | none => callG P kt ih ihg f args h o

def opVG (all : Array Oper) (op : Oper) (s : Fr) (h : H) (o : O) : Except String (Value × H × O) :=
  bif guardOk all s op then
  bif wantedA all s op then
    match o.ask with
    | (none, o) => match exec P s h op.op with
      | some r => nextG P kt ih ihg op r h o
      | none => .error op.pos
    | (some g, o) => match execG P s h op.op g with
      | some (r, p) => nextG P kt ih ihg op r h (o.and p)
      | none => .error (op.pos ++ " told")
  else .ok (undef, h, o)
  else .error op.pos

def opYG (all : Array Oper) (op : Oper) (s : Fr) (h : H) (o : O) : Except String (Value × H × O) :=
  match yieldOf s h op with
  | none => opVG P kt ih ihg all op s h o
  | some y => bif guardOk all s op && wantedA all s op then (match roundA ih y h with
      | .ok (v, h') => .ok (v, h', o)
      | .error e => .error e) else opVG P kt ih ihg all op s h o

def opsRunG (all : Array Oper) : List Oper → Fr → H → O → Except String (Fr × H × O)
  | [], s, h, o => .ok (s, h, o)
  | op :: l, s, h, o => match deferA s op with
    | some d => bif guardOk all s op && (wantedA all s op && op.dst.isNone) then opsRunG all l ⟨s.tm, s.nt, some d :: s.df⟩ h o else .error op.pos
    | none => match opYG P kt ih ihg all op s h o with
      | .error e => .error e
      | .ok (v, h', o') => match s.put op.dst v with
        | none => .error op.pos
        | some s' => opsRunG all l s' h' o'

def opsTraceG (all : Array Oper) : List Oper → Fr → H → O → Except String (List (Fr × H) × O)
  | [], s, h, o => .ok ([(s, h)], o)
  | op :: l, s, h, o => match opVG P kt ih ihg all op s h o with
    | .error e => .error e
    | .ok (v, h', o') => match s.put op.dst v with
      | none => .error op.pos
      | some s' => match opsTraceG all l s' h' o' with
        | .error e => .error e
        | .ok (r, o'') => .ok ((s, h) :: r, o'')

def hasActs (ops : Array Oper) : Bool := ops.toList.any fun o => Nat.beq (cls P o.op) 3
def hasReads (ops : Array Oper) : Bool := ops.toList.any fun o => Nat.beq (cls P o.op) 2

def stepG : Ihg := fun c s h o =>
  match c with
  | .skip | .label _ => .ok (.normal, s, h, o)
  | .region _ ops false => match opsRunG P kt ih ihg ops ops.toList s h o with
    | .error e => .error e
    | .ok (s, h, o) => .ok (.normal, s, h, o)
  | .region _ ops true =>
    bif drawStatic P ops then
      match opsTraceG P kt ih ihg ops ops.toList s h o with
      | .error e => .error e
      | .ok (sts, o) => bif drawDyn P ops sts then
          match sts.getLast? with
          | some (s, h) => .ok (.normal, s, h, o)
          | none => .error "trace"
        else .error (((ops[0]?).map (·.pos)).getD "" ++ " order: dynamic")
    else .error (((ops[0]?).map (·.pos)).getD "" ++ " order: static")
  | .seq a b => match ihg a s h o with
    | .ok (.normal, s, h, o) => ihg b s h o
    | r => r
  | .cond c x y => match ev s c with
    | some (.bool true) => ihg x s h o
    | some (.bool false) => ihg y s h o
    | _ => .error "cond"
  | .block id c => match ihg c s h o with
    | .ok (.exit id', s, h, o) => bif Nat.beq id' id then .ok (.normal, s, h, o) else .ok (.exit id', s, h, o)
    | r => r
  | .loop c => match ihg c s h o with
    | .ok (.normal, s, h, o) => ihg (.loop c) s h o
    | r => r
  | .exit id => .ok (.exit id, s, h, o)
  | .ret => .ok (.ret, s, h, o)
  | .scope _ => .error "scope"
  | .goto _ => .error "goto"
  | .rangeFunc g ps asg body => match ev s g with
    | some (.func (.func f) first cap) => match callG P kt ih ihg f (first.toList ++ .func (.yield h.next) #[] #[] :: cap.toList) (h.new (.loop .ready none s.tm s.nt ps.toList asg body)) o with
      | .ok (_, h1, o1) => match afterA s h.next h1 with
        | .ok (ex, s', h') => .ok (ex, s', h', o1)
        | .error e => .error e
      | .error e => .error e
    | _ => .error "range over what"
  | .refuse why => .error why

noncomputable def evalG (n : Nat) : Ihg :=
  Nat.rec (motive := fun _ => Ihg) (fun _ _ _ _ => .error "fuel") (fun k ihg => stepG P kt (evalK P (ktK kt) k) ihg) n

noncomputable def callGE (n : Nat) (f : FuncId) (args : List Value) (h : H) (orc : List (Nat × Orc)) : Except String (Value × H × O) :=
  callG P kt (evalK P (ktK kt) n) (evalG P kt n) f args h ⟨orc, 0, True⟩

end

/-! ### It is right -/

section
variable {P : Program} {kt : KT} {ih : Ih} {ihg : Ihg}

/-- The guided one says what the other says. -/
structure Follows (P : Program) (kt : KT) (ih : Ih) (ihg : Ihg) : Prop where
  code : ∀ c s h o ex s' h' o', ihg c s h o = .ok (ex, s', h', o') → o'.ob → o.ob ∧ ih c s h = .ok (ex, s', h')
  call : ih.k = ktK kt

theorem O.and_ob {o : O} {p : Prop} (h : (o.and p).ob) : o.ob ∧ p := by cases o; exact h
theorem O.ask_ob (o : O) : o.ask.2.ob = o.ob := by
  obtain ⟨orc, n, ob⟩ := o
  cases orc with
  | nil => rfl
  | cons x l =>
    obtain ⟨k, g⟩ := x
    simp only [O.ask]
    cases Nat.beq k n <;> rfl

theorem callG_ok (hf : Follows P kt ih ihg) {f : FuncId} {args : List Value} {h h' : H} {o o' : O} {v : Value} (he : callG P kt ih ihg f args h o = .ok (v, h', o')) (hob : o'.ob) :
    o.ob ∧ callA P ih f args h = .ok (v, h') := by
  unfold callG at he
  unfold callA
  rw [hf.call]
  split at he
  · rename_i g hg
    cases hgh : g.res args h with
    | mk v1 h1 =>
      rw [hgh] at he
      simp only [Except.ok.injEq, Prod.mk.injEq] at he
      obtain ⟨rfl, rfl, rfl⟩ := he
      obtain ⟨q1, q2⟩ := O.and_ob hob
      refine ⟨q1, ?_⟩
      have hk : ktK kt f args h = some (v1, h1) := by
        simp only [ktK, hg]
        rw [if_pos q2, hgh]
      rw [hk]
  · rename_i hg
    have hk : ktK kt f args h = none := by simp only [ktK, hg]
    rw [hk]
    simp only
    split at he
    · cases he
    · rename_i fn hfn
      split at he
      · cases he
      · rename_i body hb
        obtain ⟨hc, he⟩ := exc_false he
        simp only [hfn, hb, hc, cond_true]
        split at he
        · cases he
        · cases he
        · rename_i ex s1 h1 o1 hex hbody
          split at he
          · cases he
          · rename_i h2 hd
            split at he
            · rename_i vs hres
              cases he
              obtain ⟨q1, q2⟩ := hf.code _ _ _ _ _ _ _ _ hbody hob
              refine ⟨q1, ?_⟩
              rw [q2]
              cases ex with
              | exit id => exact absurd rfl (hex id)
              | normal => simp only [hd, hres]
              | ret => simp only [hd, hres]
            · cases he

theorem nextG_ok (hf : Follows P kt ih ihg) {op : Oper} {r : ANext} {h h' : H} {o o' : O} {v : Value} (he : nextG P kt ih ihg op r h o = .ok (v, h', o')) (hob : o'.ob) :
    o.ob ∧ (match some r with
      | none => Except.error op.pos
      | some (.val v h) => .ok (v, h)
      | some (.skip h) => .ok (undef, h)
      | some (.enter f args) => match extA P f args with
        | some v => .ok (v, h)
        | none => callA P ih f args h) = .ok (v, h') := by
  unfold nextG at he
  cases r with
  | val v1 h1 => simp only [Except.ok.injEq, Prod.mk.injEq] at he; obtain ⟨rfl, rfl, rfl⟩ := he; exact ⟨hob, rfl⟩
  | skip h1 => simp only [Except.ok.injEq, Prod.mk.injEq] at he; obtain ⟨rfl, rfl, rfl⟩ := he; exact ⟨hob, rfl⟩
  | enter f args =>
    simp only at he ⊢
    split at he
    · rename_i v1 hx
      simp only [Except.ok.injEq, Prod.mk.injEq] at he; obtain ⟨rfl, rfl, rfl⟩ := he
      exact ⟨hob, rfl⟩
    · rename_i hx
      obtain ⟨q1, q2⟩ := callG_ok hf he hob
      exact ⟨q1, q2⟩

theorem opVG_ok (hf : Follows P kt ih ihg) {all : Array Oper} {op : Oper} {s : Fr} {h h' : H} {o o' : O} {v : Value} (he : opVG P kt ih ihg all op s h o = .ok (v, h', o')) (hob : o'.ob) :
    o.ob ∧ opV P ih all op s h = .ok (v, h') := by
  unfold opVG at he
  unfold opV
  obtain ⟨hg, he⟩ := exc_false he
  rw [hg]
  simp only [cond_true]
  rcases cond_or he with ⟨hw, he⟩ | ⟨hw, he⟩
  · rw [hw]
    simp only [cond_true]
    have hask := O.ask_ob o
    split at he
    · rename_i o1 ho
      rw [ho] at hask
      split at he
      · rename_i r hx
        obtain ⟨q1, q2⟩ := nextG_ok hf he hob
        rw [hx]
        exact ⟨hask ▸ q1, q2⟩
      · cases he
    · rename_i g o1 ho
      rw [ho] at hask
      split at he
      · rename_i r p hx
        obtain ⟨q1, q2⟩ := nextG_ok hf he hob
        obtain ⟨q3, q4⟩ := O.and_ob q1
        rw [execG_ok hx q4]
        exact ⟨hask ▸ q3, q2⟩
      · cases he
  · rw [hw]
    simp only [Except.ok.injEq, Prod.mk.injEq] at he; obtain ⟨rfl, rfl, rfl⟩ := he
    exact ⟨hob, rfl⟩

theorem opYG_ok (hf : Follows P kt ih ihg) {all : Array Oper} {op : Oper} {s : Fr} {h h' : H} {o o' : O} {v : Value} (he : opYG P kt ih ihg all op s h o = .ok (v, h', o')) (hob : o'.ob) :
    o.ob ∧ opY P ih all op s h = .ok (v, h') := by
  unfold opYG at he
  unfold opY
  split at he
  · rename_i hy
    rw [hy]; exact opVG_ok hf he hob
  · rename_i y hy
    rw [hy]
    simp only
    rcases cond_or he with ⟨hw, he⟩ | ⟨hw, he⟩
    · rw [hw]
      simp only [cond_true]
      split at he
      · rename_i v1 h1 hr
        simp only [Except.ok.injEq, Prod.mk.injEq] at he; obtain ⟨rfl, rfl, rfl⟩ := he
        exact ⟨hob, hr⟩
      · cases he
    · rw [hw]
      exact opVG_ok hf he hob

theorem opsRunG_ok (hf : Follows P kt ih ihg) {all : Array Oper} : ∀ {l : List Oper} {s s' : Fr} {h h' : H} {o o' : O}, opsRunG P kt ih ihg all l s h o = .ok (s', h', o') → o'.ob →
    o.ob ∧ opsRun P ih all l s h = .ok (s', h')
  | [], s, s', h, h', o, o', he, hob => by
    simp only [opsRunG, Except.ok.injEq, Prod.mk.injEq] at he; obtain ⟨rfl, rfl, rfl⟩ := he
    exact ⟨hob, rfl⟩
  | op :: l, s, s', h, h', o, o', he, hob => by
    simp only [opsRunG] at he
    simp only [opsRun]
    split at he
    · rename_i d hd
      obtain ⟨hc, he⟩ := exc_false he
      obtain ⟨q1, q2⟩ := opsRunG_ok hf he hob
      exact ⟨q1, by rw [hd]; simp only [hc, cond_true]; exact q2⟩
    · rename_i hd
      rw [hd]
      simp only
      split at he
      · cases he
      · rename_i v h1 o1 hv
        split at he
        · cases he
        · rename_i s1 hs
          obtain ⟨q1, q2⟩ := opsRunG_ok hf he hob
          obtain ⟨q3, q4⟩ := opYG_ok hf hv q1
          exact ⟨q3, by rw [q4]; simp only [hs]; exact q2⟩

theorem opsTraceG_ok (hf : Follows P kt ih ihg) {all : Array Oper} : ∀ {l : List Oper} {s : Fr} {h : H} {o o' : O} {r : List (Fr × H)}, opsTraceG P kt ih ihg all l s h o = .ok (r, o') → o'.ob →
    o.ob ∧ opsTrace P ih all l s h = .ok r
  | [], s, h, o, o', r, he, hob => by
    simp only [opsTraceG, Except.ok.injEq, Prod.mk.injEq] at he; obtain ⟨rfl, rfl⟩ := he
    exact ⟨hob, rfl⟩
  | op :: l, s, h, o, o', r, he, hob => by
    simp only [opsTraceG] at he
    simp only [opsTrace]
    split at he
    · cases he
    · rename_i v h1 o1 hv
      split at he
      · cases he
      · rename_i s1 hs
        split at he
        · cases he
        · rename_i r1 o2 hr
          simp only [Except.ok.injEq, Prod.mk.injEq] at he; obtain ⟨rfl, rfl⟩ := he
          obtain ⟨q1, q2⟩ := opsTraceG_ok hf hr hob
          obtain ⟨q3, q4⟩ := opVG_ok hf hv q1
          exact ⟨q3, by rw [q4]; simp only [hs, q2]⟩

theorem stepG_ok (hf : Follows P kt ih ihg) : Follows P kt (stepE P ih) (stepG P kt ih ihg) := by
  refine ⟨?_, hf.call⟩
  intro c s h o ex s' h' o' he hob
  cases c with
  | skip => simp only [stepG, Except.ok.injEq, Prod.mk.injEq] at he; obtain ⟨rfl, rfl, rfl, rfl⟩ := he; exact ⟨hob, rfl⟩
  | label l => simp only [stepG, Except.ok.injEq, Prod.mk.injEq] at he; obtain ⟨rfl, rfl, rfl, rfl⟩ := he; exact ⟨hob, rfl⟩
  | exit id => simp only [stepG, Except.ok.injEq, Prod.mk.injEq] at he; obtain ⟨rfl, rfl, rfl, rfl⟩ := he; exact ⟨hob, rfl⟩
  | ret => simp only [stepG, Except.ok.injEq, Prod.mk.injEq] at he; obtain ⟨rfl, rfl, rfl, rfl⟩ := he; exact ⟨hob, rfl⟩
  | scope c => simp only [stepG] at he; cases he
  | goto l => simp only [stepG] at he; cases he
  | refuse w => simp only [stepG] at he; cases he
  | region id ops draw =>
    cases draw with
    | false =>
      simp only [stepG] at he
      split at he
      · cases he
      · rename_i hr
        simp only [Except.ok.injEq, Prod.mk.injEq] at he; obtain ⟨rfl, rfl, rfl, rfl⟩ := he
        obtain ⟨q1, q2⟩ := opsRunG_ok hf hr hob
        exact ⟨q1, by simp only [stepE, q2]⟩
    | true =>
      simp only [stepG] at he
      obtain ⟨h1, he⟩ := exc_false he
      split at he
      · cases he
      · rename_i sts o1 hr
        obtain ⟨h2, he⟩ := exc_false he
        split at he
        · rename_i s1 h3 hl
          simp only [Except.ok.injEq, Prod.mk.injEq] at he; obtain ⟨rfl, rfl, rfl, rfl⟩ := he
          obtain ⟨q1, q2⟩ := opsTraceG_ok hf hr hob
          exact ⟨q1, by simp only [stepE, h1, q2, h2, hl, cond_true]⟩
        · cases he
  | seq a b =>
    simp only [stepG] at he
    split at he
    · rename_i s1 h1 o1 ha
      obtain ⟨q1, q2⟩ := hf.code _ _ _ _ _ _ _ _ he hob
      obtain ⟨q3, q4⟩ := hf.code _ _ _ _ _ _ _ _ ha q1
      exact ⟨q3, by simp only [stepE, q4]; exact q2⟩
    · rename_i hne
      obtain ⟨q3, q4⟩ := hf.code _ _ _ _ _ _ _ _ he hob
      refine ⟨q3, ?_⟩
      simp only [stepE, q4]
      cases ex with
      | normal => exact absurd he (hne s' h' o')
      | exit id => rfl
      | ret => rfl
  | cond c x y =>
    simp only [stepG] at he
    split at he
    · rename_i hc
      obtain ⟨q3, q4⟩ := hf.code _ _ _ _ _ _ _ _ he hob
      exact ⟨q3, by simp only [stepE, hc]; exact q4⟩
    · rename_i hc
      obtain ⟨q3, q4⟩ := hf.code _ _ _ _ _ _ _ _ he hob
      exact ⟨q3, by simp only [stepE, hc]; exact q4⟩
    · cases he
  | block id c =>
    simp only [stepG] at he
    split at he
    · rename_i id' s1 h1 o1 ha
      rcases cond_or he with ⟨hb, he⟩ | ⟨hb, he⟩ <;>
      · simp only [Except.ok.injEq, Prod.mk.injEq] at he; obtain ⟨rfl, rfl, rfl, rfl⟩ := he
        obtain ⟨q3, q4⟩ := hf.code _ _ _ _ _ _ _ _ ha hob
        exact ⟨q3, by simp only [stepE, q4, hb, cond_true, cond_false]⟩
    · rename_i hne
      obtain ⟨q3, q4⟩ := hf.code _ _ _ _ _ _ _ _ he hob
      refine ⟨q3, ?_⟩
      simp only [stepE, q4]
      cases ex with
      | exit id' => exact absurd he (hne id' s' h' o')
      | normal => rfl
      | ret => rfl
  | loop c =>
    simp only [stepG] at he
    split at he
    · rename_i s1 h1 o1 ha
      obtain ⟨q1, q2⟩ := hf.code _ _ _ _ _ _ _ _ he hob
      obtain ⟨q3, q4⟩ := hf.code _ _ _ _ _ _ _ _ ha q1
      exact ⟨q3, by simp only [stepE, q4]; exact q2⟩
    · rename_i hne
      obtain ⟨q3, q4⟩ := hf.code _ _ _ _ _ _ _ _ he hob
      refine ⟨q3, ?_⟩
      simp only [stepE, q4]
      cases ex with
      | normal => exact absurd he (hne s' h' o')
      | exit id => rfl
      | ret => rfl
  | rangeFunc g ps asg body =>
    simp only [stepG] at he
    split at he
    · rename_i f first cap hg
      split at he
      · rename_i v1 h1 o1 hc
        split at he
        · rename_i ex1 s1 h2 ha
          simp only [Except.ok.injEq, Prod.mk.injEq] at he; obtain ⟨rfl, rfl, rfl, rfl⟩ := he
          obtain ⟨q1, q2⟩ := callG_ok hf hc hob
          exact ⟨q1, by simp only [stepE, hg, q2, ha]⟩
        · cases he
      · cases he
    · cases he

theorem evalG_follows (P : Program) (kt : KT) : ∀ n, Follows P kt (evalK P (ktK kt) n) (evalG P kt n)
  | 0 => ⟨fun _ _ _ _ _ _ _ _ he _ => (by cases he), rfl⟩
  | n + 1 => stepG_ok (evalG_follows P kt n)

end

/-! ### What it gives -/

section
variable {P : Program} {kt : KT}

/-- A call, run by the guided evaluator: what it comes to, it comes to whatever the world. -/
theorem callGE_ok (hm : P.follows .mixedOrders = true) (hkt : KTOk P kt) {n : Nat} {f : FuncId} {args : List Value} {h h' : H} {orc : List (Nat × Orc)} {v : Value} {o : O}
    (he : callGE P kt n f args h orc = .ok (v, h', o)) (hob : o.ob) : CallOk P f args h v h' := by
  have hF := evalG_follows P kt n
  obtain ⟨_, q⟩ := callG_ok hF he hob
  exact ⟨fun ρ args' w h1 h2 h3 h4 => callA_sound (evalK_sound hm (ktK_knows hkt) n) (evalK_ext (ktK_knows hkt).ext n) q h1 h2 h3 h4, callA_ext (evalK_ext (ktK_knows hkt).ext n) q⟩

end
end Go.Proofs.YtdocmpnofklaoaaGreatDoor.Ev

/- How an abstract state stands to the model's: renamed blocks, related values, cells and frames. -/
import Derived.Test.YtdocmpnofklaoaaGreatDoorEv2
namespace Go.Proofs.YtdocmpnofklaoaaGreatDoor.Ev
open Go

structure BI where
  b : Nat
  base : Nat
  N : Nat
abbrev Rho := Nat → Option BI

mutual
inductive VR (ρ : Rho) : Value → Value → Prop
  | atom {v : Value} (h : okAtom v = true) : VR ρ v v
  | ptr {a : Addr} {i : BI} (h : ρ a.block = some i) (hs : a.spot = none) : VR ρ (.pointer (some a)) (.pointer (some ⟨i.b, i.base + a.off, none⟩))
  | slice {a : Addr} {i : BI} {sp n c c' o' : Nat} (h : ρ a.block = some i) (hs : a.spot = some sp) (hn : n ≤ c) (hc : c ≤ c') (he : sp % 2 = 1 → c' = c)
      (ho : 0 < c → o' = i.base + a.off) (hr : o' + c' * (sp / 2) ≤ i.N) : VR ρ (.slice (some a) n c) (.slice (some ⟨i.b, o', none⟩) n c')
  | map {r : Nat} {i : BI} (h : ρ r = some i) : VR ρ (.map (some r)) (.map (some i.b))
  | func {f : FuncId} {fs fs' cs cs' : Array Value} (h1 : VRs ρ fs.toList fs'.toList) (h2 : VRs ρ cs.toList cs'.toList) :
      VR ρ (.func (.func f) fs cs) (.func (.func f) fs' cs')
  | raw {v : Value} (h : v.oneCell' = true) (hb : ∀ b, v ≠ .bool b) : VR ρ (rawV v) v
  | yield {r : Nat} {i : BI} (h : ρ r = some i) : VR ρ (.func (.yield r) #[] #[]) (.func (.yield i.b) #[] #[])
  | iface {t : TypeId} {v v' : Value} (ht : t ≠ rawT) (h : VR ρ v v') : VR ρ (.iface t v) (.iface t v')
  | agg {xs ys : Array Value} (h : VRs ρ xs.toList ys.toList) : VR ρ (.agg xs) (.agg ys)
  | tuple {xs ys : Array Value} (h : VRs ρ xs.toList ys.toList) : VR ρ (.tuple xs) (.tuple ys)
inductive VRs (ρ : Rho) : List Value → List Value → Prop
  | nil : VRs ρ [] []
  | cons {v v' : Value} {vs vs' : List Value} (h : VR ρ v v') (t : VRs ρ vs vs') : VRs ρ (v :: vs) (v' :: vs')
end

def Sub (ρ ρ' : Rho) : Prop := ∀ a i, ρ a = some i → ρ' a = some i
theorem Sub.refl (ρ : Rho) : Sub ρ ρ := fun _ _ h => h
theorem Sub.trans {ρ ρ' ρ'' : Rho} (h : Sub ρ ρ') (h' : Sub ρ' ρ'') : Sub ρ ρ'' := fun a i x => h' a i (h a i x)

mutual
theorem VR.mono {ρ ρ' : Rho} (hs : Sub ρ ρ') : ∀ {v v' : Value}, VR ρ v v' → VR ρ' v v'
  | _, _, .atom h => .atom h
  | _, _, .ptr h h' => .ptr (hs _ _ h) h'
  | _, _, .slice h a b c d e f => .slice (hs _ _ h) a b c d e f
  | _, _, .map h => .map (hs _ _ h)
  | _, _, .func a b => .func (VRs.mono hs a) (VRs.mono hs b)
  | _, _, .raw h hb => .raw h hb
  | _, _, .yield a => .yield (hs _ _ a)
  | _, _, .iface ht a => .iface ht (VR.mono hs a)
  | _, _, .agg a => .agg (VRs.mono hs a)
  | _, _, .tuple a => .tuple (VRs.mono hs a)
theorem VRs.mono {ρ ρ' : Rho} (hs : Sub ρ ρ') : ∀ {v v' : List Value}, VRs ρ v v' → VRs ρ' v v'
  | _, _, .nil => .nil
  | _, _, .cons a b => .cons (VR.mono hs a) (VRs.mono hs b)
end

section
variable {ρ : Rho}
theorem VRs.length : ∀ {l l' : List Value}, VRs ρ l l' → l.length = l'.length
  | _, _, .nil => rfl
  | _, _, .cons _ t => by simp [VRs.length t]
theorem VRs.get : ∀ {l l' : List Value} {i : Nat} {v : Value}, VRs ρ l l' → l[i]? = some v → ∃ v', l'[i]? = some v' ∧ VR ρ v v'
  | _, _, i, _, .nil, h => by simp at h
  | _, _, 0, _, .cons a _, h => by simp at h; subst h; exact ⟨_, rfl, a⟩
  | _, _, i + 1, _, .cons _ t, h => by simpa using VRs.get t (by simpa using h)
theorem VRs.get' : ∀ {l l' : List Value} {i : Nat} {v : Value}, VRs ρ l l' → l'[i]? = some v → ∃ v', l[i]? = some v' ∧ VR ρ v' v
  | _, _, i, _, .nil, h => by simp at h
  | _, _, 0, _, .cons a _, h => by simp at h; subst h; exact ⟨_, rfl, a⟩
  | _, _, i + 1, _, .cons _ t, h => by simpa using VRs.get' t (by simpa using h)
theorem VRs.of_get : ∀ {l l' : List Value}, l.length = l'.length → (∀ (i : Nat) v v', l[i]? = some v → l'[i]? = some v' → VR ρ v v') → VRs ρ l l'
  | [], [], _, _ => .nil
  | [], _ :: _, h, _ => by simp at h
  | _ :: _, [], h, _ => by simp at h
  | v :: l, v' :: l', h, hh => .cons (hh 0 _ _ rfl rfl) (VRs.of_get (by simpa using h) fun i a b x y => hh (i + 1) a b (by simpa using x) (by simpa using y))
theorem VRs.append : ∀ {l l' m m' : List Value}, VRs ρ l l' → VRs ρ m m' → VRs ρ (l ++ m) (l' ++ m')
  | _, _, _, _, .nil, h => h
  | _, _, _, _, .cons a t, h => .cons a (VRs.append t h)
theorem VRs.atoms : ∀ {l : List Value}, l.all okAtom = true → VRs ρ l l
  | [], _ => .nil
  | v :: l, h => by simp at h; exact .cons (.atom h.1) (VRs.atoms (by simpa using h.2))
theorem VRs.single {v v' : Value} (h : VR ρ v v') : VRs ρ [v] [v'] := .cons h .nil

theorem VR.okC {v : Value} (h : okC v = true) : VR ρ v v := by
  cases v <;> first
    | exact .atom h
    | exact .agg (VRs.atoms h)
    | exact .tuple (VRs.atoms h)

theorem VR.okZ {v : Value} (h : okZ v = true) : VR ρ v v := by
  cases v <;> first
    | exact .agg (VRs.atoms h)
    | exact .atom (by simpa [Ev.okZ, Value.cells] using h)

theorem VR.undef : VR ρ undef undef := .tuple .nil

theorem cells_one {v : Value} (h : v.oneCell' = true) : v.cells = #[v] := by
  cases v <;> first | rfl | (simp [Value.oneCell'] at h)

theorem VR.cells {v v' : Value} (h : VR ρ v v') : VRs ρ v.cells.toList v'.cells.toList := by
  cases h with
  | agg h => exact h
  | atom h => cases v <;> first | exact VRs.single (.atom h) | (simp [okAtom] at h)
  | ptr h h' => exact VRs.single (.ptr h h')
  | slice h a b c d e f => exact VRs.single (.slice h a b c d e f)
  | map h => exact VRs.single (.map h)
  | func a b => exact VRs.single (.func a b)
  | raw h hb => rw [cells_one h]; exact VRs.single (.raw h hb)
  | yield a => exact VRs.single (.yield a)
  | iface ht a => exact VRs.single (.iface ht a)
  | tuple a => exact VRs.single (.tuple a)

theorem VR.oneCell {v v' : Value} (h : VR ρ v v') : v'.oneCell' = v.oneCell' := by
  cases h <;> first | rfl | assumption
theorem VRs.oneCell : ∀ {l l' : List Value}, VRs ρ l l' → l'.all Value.oneCell' = l.all Value.oneCell'
  | _, _, .nil => rfl
  | _, _, .cons a t => by simp [VR.oneCell a, VRs.oneCell t]

theorem VR.int {k : IntKind} {n : Int} {v : Value} (h : VR ρ (.int k n) v) : v = .int k n := by cases h; rfl
theorem VR.bool {b : Bool} {v : Value} (h : VR ρ (.bool b) v) : v = .bool b := by cases h; rfl
theorem VR.string {b : ByteArray} {v : Value} (h : VR ρ (.string b) v) : v = .string b := by cases h; rfl
theorem VR.ptrNone {v : Value} (h : VR ρ (.pointer none) v) : v = .pointer none := by cases h; rfl
theorem VR.sliceNone {n c : Nat} {v : Value} (h : VR ρ (.slice none n c) v) : v = .slice none n c := by cases h; rfl
theorem VR.mapNone {v : Value} (h : VR ρ (.map none) v) : v = .map none := by cases h; rfl
end

/-! ### Frames -/

/-- A frame's slot: known, or not. -/
def VRt (ρ : Rho) (v v' : Value) : Prop := v = anyV ∨ VR ρ v v'
theorem VRt.mono {ρ ρ' : Rho} (hs : Sub ρ ρ') {v v' : Value} (h : VRt ρ v v') : VRt ρ' v v' := h.imp id (VR.mono hs)
theorem VRt.known {ρ : Rho} {v v' : Value} (h : VRt ρ v v') (hk : known v = true) : VR ρ v v' := by
  rcases h with rfl | h
  · exact absurd hk (by decide)
  · exact h

structure TR (ρ : Rho) (s : Fr) (tm : Array Value) : Prop where
  size : tm.size = s.nt
  get : ∀ t, VRt ρ (s.get t) (tm.getD t undef)

theorem TR.mono {ρ ρ' : Rho} {s : Fr} {tm : Array Value} (h : TR ρ s tm) (hs : Sub ρ ρ') : TR ρ' s tm := ⟨h.size, fun t => (h.get t).mono hs⟩

theorem Fr.get_put {s s' : Fr} {d : Nat} {v : Value} (h : s.put (some d) v = some s') (t : Nat) : s'.get t = if t = d then v else s.get t := by
  simp only [Fr.put] at h
  cases hb : Nat.blt d s.nt with
  | false => rw [hb] at h; simp at h
  | true =>
    rw [hb] at h; simp at h; subst h
    simp only [Fr.get, T.get_put]
    by_cases e : t = d <;> simp [e]

theorem Fr.put_nt {s s' : Fr} {d : Option Tmp} {v : Value} (h : s.put d v = some s') : s'.nt = s.nt := by
  cases d with
  | none => simp [Fr.put] at h; rw [h]
  | some d =>
    simp only [Fr.put] at h
    cases hb : Nat.blt d s.nt with
    | false => rw [hb] at h; simp at h
    | true => rw [hb] at h; simp at h; rw [← h]

theorem Fr.put_df {s s' : Fr} {d : Option Tmp} {v : Value} (h : s.put d v = some s') : s'.df = s.df := by
  cases d with
  | none => simp [Fr.put] at h; rw [h]
  | some d =>
    simp only [Fr.put] at h
    cases hb : Nat.blt d s.nt with
    | false => rw [hb] at h; simp at h
    | true => rw [hb] at h; simp at h; rw [← h]

theorem TR.put {ρ : Rho} {s s' : Fr} {a : Act} {d : Option Tmp} {v v' : Value} (h : TR ρ s a.tmps) (hv : VR ρ v v') (hp : s.put d v = some s') :
    TR ρ s' (a.put d v').tmps := by
  cases d with
  | none => simp [Fr.put] at hp; subst hp; exact h
  | some d =>
    have hlt : d < s.nt := by
      simp only [Fr.put] at hp
      cases hb : Nat.blt d s.nt with
      | false => rw [hb] at hp; simp at hp
      | true => rw [Nat.blt_eq] at hb; exact hb
    refine ⟨by rw [Fr.put_nt hp]; simp [Act.put, h.size], fun t => ?_⟩
    rw [Fr.get_put hp]
    by_cases e : t = d
    · subst e
      exact .inr (by simp [Act.put, h.size, hlt, hv])
    · rw [if_neg e]
      have := h.get t
      simp only [Act.put]
      simpa [Array.getD_eq_getD_getElem?, Array.getElem?_setIfInBounds, Ne.symm e] using this

theorem TR.ev {ρ : Rho} {s : Fr} {a : Act} {x : Operand} {v : Value} (h : TR ρ s a.tmps) (hx : ev s x = some v) : VR ρ v (a.eval x) := by
  cases x with
  | tmp t =>
    simp only [Ev.ev] at hx
    cases hc : known (s.get t) with
    | false => rw [hc] at hx; simp at hx
    | true => rw [hc] at hx; simp at hx; subst hx; exact (h.get t).known hc
  | const c =>
    simp only [Ev.ev] at hx
    cases hc : okC c with
    | false => rw [hc] at hx; simp at hx
    | true => rw [hc] at hx; simp at hx; subst hx; exact VR.okC hc
  | global g => simp [Ev.ev] at hx
  | func f => simp only [Ev.ev, Option.some.injEq] at hx; subst hx; exact .func .nil .nil

theorem TR.evs {ρ : Rho} {s : Fr} {a : Act} (h : TR ρ s a.tmps) : ∀ {xs : List Operand} {vs : List Value}, evs s xs = some vs → VRs ρ vs (xs.map a.eval)
  | [], vs, hx => by simp [Ev.evs] at hx; subst hx; exact .nil
  | x :: xs, vs, hx => by
    simp only [Ev.evs] at hx
    cases h1 : Ev.ev s x with
    | none => rw [h1] at hx; simp at hx
    | some v =>
      rw [h1] at hx
      cases h2 : Ev.evs s xs with
      | none => rw [h2] at hx; simp at hx
      | some ws => rw [h2] at hx; simp at hx; subst hx; exact .cons (h.ev h1) (h.evs h2)

/-! ### Heaps -/

def AObj.live : AObj → Bool
  | .dead => false
  | _ => true

inductive MRs (ρ : Rho) : List MapEntry → List MapEntry → Prop
  | nil : MRs ρ [] []
  | cons {e e' : MapEntry} {es es' : List MapEntry} (hk : VR ρ e.key e'.key) (hv : VR ρ e.val e'.val) (hb : e'.born = e.born) (t : MRs ρ es es') : MRs ρ (e :: es) (e' :: es')

theorem MRs.mono {ρ ρ' : Rho} (hs : Sub ρ ρ') : ∀ {l l' : List MapEntry}, MRs ρ l l' → MRs ρ' l l'
  | _, _, .nil => .nil
  | _, _, .cons a b c t => .cons (a.mono hs) (b.mono hs) c (t.mono hs)
theorem MRs.length {ρ : Rho} : ∀ {l l' : List MapEntry}, MRs ρ l l' → l'.length = l.length
  | _, _, .nil => rfl
  | _, _, .cons _ _ _ t => by simp [MRs.length t]

def OR (ρ : Rho) (i : BI) : AObj → Option Obj → Prop
  | .dead, _ => True
  | .row n cs k, o => ∃ arr e fr, o = some (.cells arr e fr) ∧ arr.size = i.N ∧ i.base + n ≤ i.N ∧ (Nat.beq k roT = true ∨ fr.1 = fr.2 ∨ i.N ≤ fr.1) ∧
      ∀ j v, j < n → cs.get j = some v → ∃ v', arr[i.base + j]? = some v' ∧ VR ρ v v'
  | .map es cl, o => ∃ es', o = some (.map es' cl) ∧ MRs ρ es es'.toList
  | .iter m since seen last, o => i.base = 0 ∧ ∃ m', o = some (.mapIter m' since seen.toArray last) ∧ (match m with | none => m' = none | some r => ∃ j, ρ r = some j ∧ m' = some j.b)
  | .siter s pos, o => i.base = 0 ∧ o = some (.stringIter s pos)
  | .loop st pend tm nt ps asg body, o => i.base = 0 ∧ ∃ r : Loop, o = some (.loop r) ∧ r.state = st ∧ r.pending = pend ∧ TR ρ ⟨tm, nt, []⟩ r.tmps ∧ r.params.toList = ps ∧ r.assign = asg ∧ r.body = body

theorem OR.mono {ρ ρ' : Rho} {i : BI} {a : AObj} {o : Option Obj} (hs : Sub ρ ρ') (h : OR ρ i a o) : OR ρ' i a o := by
  cases a with
  | dead => trivial
  | row n cs e =>
    obtain ⟨arr, e', fr, h1, h2, h3, h4, h5⟩ := h
    exact ⟨arr, e', fr, h1, h2, h3, h4, fun j v hj hv => let ⟨v', x, y⟩ := h5 j v hj hv; ⟨v', x, y.mono hs⟩⟩
  | map es cl => obtain ⟨es', h1, h2⟩ := h; exact ⟨es', h1, h2.mono hs⟩
  | iter m since seen last =>
    obtain ⟨h0, m', h1, h2⟩ := h
    refine ⟨h0, m', h1, ?_⟩
    cases m with
    | none => exact h2
    | some r => obtain ⟨j, h3, h4⟩ := h2; exact ⟨j, hs _ _ h3, h4⟩
  | siter s pos => exact h
  | loop st pend tm nt ps asg body =>
    obtain ⟨h0, r, h1, h2, h3, h4, h5⟩ := h
    exact ⟨h0, r, h1, h2, h3, h4.mono hs, h5⟩

/-- An object that may be written. -/
def AObj.mut (o : AObj) : Bool := o.live && !o.ro
theorem AObj.mut_live {o : AObj} (h : o.mut = true) : o.live = true := by simp only [AObj.mut, Bool.and_eq_true] at h; exact h.1
structure HR (ρ : Rho) (g : Nat → Option AObj) (w : World) : Prop where
  obj : ∀ a i o, ρ a = some i → g a = some o → OR ρ i o w.heap[i.b]?
  inj : ∀ a a' i i' o o', ρ a = some i → ρ a' = some i' → g a = some o → g a' = some o' → o.mut = true → o'.live = true → i.b = i'.b → a = a'
  lt : ∀ a i, ρ a = some i → i.b < w.heap.size

def FreeM (ρ : Rho) (g : Nat → Option AObj) (b : Nat) : Prop := ∀ a i o, ρ a = some i → g a = some o → o.mut = true → i.b ≠ b
/-- No live object stands for this block. -/
def Free (ρ : Rho) (g : Nat → Option AObj) (b : Nat) : Prop := ∀ a i o, ρ a = some i → g a = some o → o.live = true → i.b ≠ b

theorem Free.m {ρ : Rho} {g : Nat → Option AObj} {b : Nat} (h : Free ρ g b) : FreeM ρ g b := fun a i o h1 h2 h3 => h a i o h1 h2 (AObj.mut_live h3)
/-- What is only read is free to the writers. -/
theorem HR.ro_free {ρ : Rho} {g : Nat → Option AObj} {w : World} (h : HR ρ g w) {a : Nat} {i : BI} {o : AObj} (ha : ρ a = some i) (ho : g a = some o) (hr : o.ro = true) : FreeM ρ g i.b := fun a' i' o' h1 h2 h3 e => by
  have hl : o.live = true := by cases o <;> simp [AObj.ro] at hr <;> rfl
  have := h.inj a' a i' i o' o h1 ha h2 ho h3 hl e
  subst this
  rw [h2] at ho; simp at ho; subst ho
  simp [AObj.mut, hr] at h3

structure WFH (h : H) : Prop where
  lt : ∀ a c, h.objs.get a = some c → a < h.next
  ver : ∀ a c, h.objs.get a = some c → c.ver < h.clk

/-- Outside memory nothing has turned. -/
def Env (w w' : World) : Prop := w'.os = w.os ∧ (w'.output, w'.tape) = (w.output, w.tape)
theorem Env.refl (w : World) : Env w w := ⟨rfl, rfl⟩
theorem Env.trans {a b c : World} (x : Env a b) (y : Env b c) : Env a c := ⟨y.1.trans x.1, y.2.trans x.2⟩

/-- What has become of memory between two moments. -/
structure Ext (ρ : Rho) (h : H) (w : World) (ρ' : Rho) (h' : H) (w' : World) : Prop where
  sub : Sub ρ ρ'
  dom : ∀ a, ρ a = none → (ρ' a).isSome = true → h.next ≤ a ∧ a < h'.next
  keep : ∀ b, b < w.heap.size → Free ρ h.obj b → w'.heap[b]? = w.heap[b]? ∧ Free ρ' h'.obj b
  keepM : ∀ b, b < w.heap.size → FreeM ρ h.obj b → w'.heap[b]? = w.heap[b]? ∧ FreeM ρ' h'.obj b
  size : w.heap.size ≤ w'.heap.size
  next : h.next ≤ h'.next
  clk : h.clk ≤ h'.clk
  absf : ∀ a, a < h.next → ρ a = none → h'.objs.get a = h.objs.get a
  vers : ∀ a, a < h.next → h'.objs.get a = h.objs.get a ∨ ∃ c, h'.objs.get a = some c ∧ h.clk ≤ c.ver
  wf : WFH h → WFH h'
  env : Env w w'

theorem Ext.refl (ρ : Rho) (h : H) (w : World) : Ext ρ h w ρ h w :=
  ⟨Sub.refl ρ, fun a h1 h2 => by rw [h1] at h2; simp at h2, fun _ _ hf => ⟨rfl, hf⟩, fun _ _ hf => ⟨rfl, hf⟩, Nat.le_refl _, Nat.le_refl _, Nat.le_refl _, fun _ _ _ => rfl, fun _ _ => .inl rfl, id, Env.refl w⟩

theorem Ext.trans {ρ ρ' ρ'' : Rho} {h h' h'' : H} {w w' w'' : World} (x : Ext ρ h w ρ' h' w') (y : Ext ρ' h' w' ρ'' h'' w'') : Ext ρ h w ρ'' h'' w'' := by
  refine ⟨x.sub.trans y.sub, ?_, ?_, fun b hb hf => ⟨(y.keepM b (Nat.lt_of_lt_of_le hb x.size) (x.keepM b hb hf).2).1.trans (x.keepM b hb hf).1, (y.keepM b (Nat.lt_of_lt_of_le hb x.size) (x.keepM b hb hf).2).2⟩, Nat.le_trans x.size y.size, Nat.le_trans x.next y.next, Nat.le_trans x.clk y.clk, ?_, ?_, fun hw => y.wf (x.wf hw), x.env.trans y.env⟩
  · intro a h1 h2
    cases h3 : ρ' a with
    | none => exact ⟨Nat.le_trans x.next (y.dom a h3 h2).1, (y.dom a h3 h2).2⟩
    | some i => have := x.dom a h1 (by rw [h3]; rfl); exact ⟨this.1, Nat.lt_of_lt_of_le this.2 y.next⟩
  · intro b hb hf
    obtain ⟨h1, h2⟩ := x.keep b hb hf
    obtain ⟨h3, h4⟩ := y.keep b (Nat.lt_of_lt_of_le hb x.size) h2
    exact ⟨h3.trans h1, h4⟩
  · intro a ha hn
    have hn' : ρ' a = none := by
      cases h3 : ρ' a with
      | none => rfl
      | some i => have := (x.dom a hn (by rw [h3]; rfl)).1; omega
    exact (y.absf a (Nat.lt_of_lt_of_le ha x.next) hn').trans (x.absf a ha hn)
  · intro a ha
    rcases y.vers a (Nat.lt_of_lt_of_le ha x.next) with h1 | ⟨c, h1, h2⟩
    · rcases x.vers a ha with h3 | ⟨c, h3, h4⟩
      · exact .inl (h1.trans h3)
      · exact .inr ⟨c, h1.trans h3, h4⟩
    · exact .inr ⟨c, h1, Nat.le_trans x.clk h2⟩

theorem H.obj_eq {h h' : H} {a : Nat} (e : h'.objs.get a = h.objs.get a) : h'.obj a = h.obj a := by simp [H.obj, e]
theorem H.obj_some {h : H} {a : Nat} {o : AObj} (e : h.obj a = some o) : ∃ c, h.objs.get a = some c ∧ c.obj = o := by
  simp only [H.obj] at e
  cases hc : h.objs.get a with
  | none => rw [hc] at e; simp at e
  | some c => rw [hc] at e; simp at e; exact ⟨c, rfl, e⟩
theorem WFH.obj_lt {h : H} (hw : WFH h) {a : Nat} {o : AObj} (e : h.obj a = some o) : a < h.next := by
  obtain ⟨c, hc, _⟩ := H.obj_some e
  exact hw.lt a c hc
theorem H.obj_upd (h : H) (a : Nat) (o : AObj) (x : Nat) : (h.upd a o).obj x = if x = a then some o else h.obj x := by
  by_cases e : x = a <;> simp [H.obj, H.upd, T.get_put, e]
theorem H.obj_new (h : H) (o : AObj) (x : Nat) : (h.new o).obj x = if x = h.next then some o else h.obj x := by
  by_cases e : x = h.next <;> simp [H.obj, H.new, T.get_put, e]

/-- The same memory, but for marks. -/
theorem HR.heap {ρ : Rho} {g : Nat → Option AObj} {w w' : World} (h : HR ρ g w) (e : w'.heap = w.heap) : HR ρ g w' :=
  ⟨fun a i o x y => by rw [e]; exact h.obj a i o x y, h.inj, fun a i x => by rw [e]; exact h.lt a i x⟩
theorem HR.congr {ρ : Rho} {g g' : Nat → Option AObj} {w : World} (h : HR ρ g w) (e : ∀ a o, (ρ a).isSome = true → g' a = some o → g a = some o) : HR ρ g' w :=
  ⟨fun a i o x y => h.obj a i o x (e a o (by rw [x]; rfl) y), fun a a' i i' o o' x x' y y' => h.inj a a' i i' o o' x x' (e a o (by rw [x]; rfl) y) (e a' o' (by rw [x']; rfl) y'), h.lt⟩

end Go.Proofs.YtdocmpnofklaoaaGreatDoor.Ev

/- States told anew, checked by the kernel; a contract of a function without arguments. -/
import Derived.Test.YtdocmpnofklaoaaGreatDoorEv26
namespace Go.Proofs.YtdocmpnofklaoaaGreatDoor.Ev
open Go
set_option linter.unusedSimpArgs false

def kindB (a b : IntKind) : Bool := decide (a = b)

mutual
def rvB (σ : Nat → Nat) (N : Nat) : Nat → Value → Value → Bool
  | 0, _, _ => false
  | k + 1, v, w => match v, w with
    | .bool a, .bool b => a == b
    | .int i a, .int j b => kindB i j && eqI a b
    | .string a, .string b => a.data.toList == b.data.toList
    | .pointer none, .pointer none => true
    | .pointer (some a), .pointer (some b) => Nat.blt a.block N && Nat.beq (σ a.block) b.block && Nat.beq a.off b.off && a.spot.isNone && b.spot.isNone
    | .slice none n c, .slice none n' c' => Nat.beq n n' && Nat.beq c c'
    | .slice (some a) n c, .slice (some b) n' c' => Nat.blt a.block N && Nat.beq (σ a.block) b.block && Nat.beq a.off b.off && decide (a.spot = b.spot) && Nat.beq n n' && Nat.beq c c'
    | .map none, .map none => true
    | .map (some a), .map (some b) => Nat.blt a N && Nat.beq (σ a) b
    | .nilFunc, .nilFunc => true
    | .nilIface, .nilIface => true
    | .func (.func f) fs cs, .func (.func g) fs' cs' => Nat.beq f g && rvsB σ N k fs.toList fs'.toList && rvsB σ N k cs.toList cs'.toList
    | .iface t v, .iface u w => Nat.beq t u && !(Nat.beq t rawT) && rvB σ N k v w
    | .agg xs, .agg ys => rvsB σ N k xs.toList ys.toList
    | .tuple xs, .tuple ys => rvsB σ N k xs.toList ys.toList
    | _, _ => false
def rvsB (σ : Nat → Nat) (N : Nat) : Nat → List Value → List Value → Bool
  | 0, _, _ => false
  | _ + 1, [], [] => true
  | k + 1, v :: vs, w :: ws => rvB σ N k v w && rvsB σ N k vs ws
  | _ + 1, _, _ => false
end

theorem bytes_eq {a b : ByteArray} (h : a.data.toList = b.data.toList) : a = b := by
  cases a; cases b; simp at h; rw [h]

mutual
theorem rvB_ok {σ : Nat → Nat} {N : Nat} : ∀ {k : Nat} {v w : Value}, rvB σ N k v w = true → RV σ N v w
  | 0, _, _, h => by simp [rvB] at h
  | k + 1, v, w, h => by
    unfold rvB at h
    split at h
    · have := eq_of_beq h; subst this; exact .atom rfl
    · simp only [Bool.and_eq_true, kindB, decide_eq_true_eq, eqI_eq, beq_iff_eq] at h
      obtain ⟨rfl, rfl⟩ := h; exact .atom rfl
    · have := bytes_eq (eq_of_beq h); subst this; exact .atom rfl
    · exact .atom rfl
    · rename_i a b
      simp only [Bool.and_eq_true, Nat.blt_eq, Nat.beq_eq, Option.isNone_iff_eq_none] at h
      obtain ⟨⟨⟨⟨h1, h2⟩, h3⟩, h4⟩, h5⟩ := h
      obtain ⟨b1, b2, b3⟩ := b
      simp only at h2 h3 h5; subst h2; subst h3; subst h5
      exact .ptr h1 h4
    · simp only [Bool.and_eq_true, Nat.beq_eq] at h
      obtain ⟨rfl, rfl⟩ := h; exact .atom rfl
    · rename_i a n c b n' c'
      simp only [Bool.and_eq_true, Nat.blt_eq, Nat.beq_eq, decide_eq_true_eq] at h
      obtain ⟨⟨⟨⟨⟨h1, h2⟩, h3⟩, h4⟩, rfl⟩, rfl⟩ := h
      obtain ⟨b1, b2, b3⟩ := b
      simp only at h2 h3 h4; subst h2; subst h3; subst h4
      exact .slice h1
    · exact .atom rfl
    · simp only [Bool.and_eq_true, Nat.blt_eq, Nat.beq_eq] at h
      obtain ⟨h1, rfl⟩ := h
      exact .map h1
    · exact .atom rfl
    · exact .atom rfl
    · simp only [Bool.and_eq_true, Nat.beq_eq] at h
      obtain ⟨⟨rfl, h2⟩, h3⟩ := h
      exact .func (rvsB_ok h2) (rvsB_ok h3)
    · simp only [Bool.and_eq_true, Nat.beq_eq, Bool.not_eq_true'] at h
      obtain ⟨⟨rfl, h2⟩, h3⟩ := h
      exact .iface (fun e => by rw [e] at h2; simp at h2) (rvB_ok h3)
    · exact .agg (rvsB_ok h)
    · exact .tuple (rvsB_ok h)
    · cases h
theorem rvsB_ok {σ : Nat → Nat} {N : Nat} : ∀ {k : Nat} {v w : List Value}, rvsB σ N k v w = true → RVs σ N v w
  | 0, _, _, h => by simp [rvsB] at h
  | _ + 1, [], [], _ => .nil
  | k + 1, v :: vs, w :: ws, h => by
    simp only [rvsB, Bool.and_eq_true] at h
    exact .cons (rvB_ok h.1) (rvsB_ok h.2)
  | _ + 1, [], _ :: _, h => by simp [rvsB] at h
  | _ + 1, _ :: _, [], h => by simp [rvsB] at h
end

def rmsB (σ : Nat → Nat) (N k : Nat) : List MapEntry → List MapEntry → Bool
  | [], [] => true
  | e :: es, e' :: es' => rvB σ N k e.key e'.key && rvB σ N k e.val e'.val && Nat.beq e'.born e.born && rmsB σ N k es es'
  | _, _ => false
theorem rmsB_ok {σ : Nat → Nat} {N k : Nat} : ∀ {l l' : List MapEntry}, rmsB σ N k l l' = true → RMs σ N l l'
  | [], [], _ => .nil
  | e :: es, e' :: es', h => by
    simp only [rmsB, Bool.and_eq_true, Nat.beq_eq] at h
    exact .cons (rvB_ok h.1.1.1) (rvB_ok h.1.1.2) h.1.2 (rmsB_ok h.2)
  | [], _ :: _, h => by simp [rmsB] at h
  | _ :: _, [], h => by simp [rmsB] at h

def rcB (σ : Nat → Nat) (N k : Nat) : List Value → Nat → T Value → Bool
  | [], _, _ => true
  | v :: vs, j, cs => (match cs.get j with
    | some w => rvB σ N k v w
    | none => false) && rcB σ N k vs (j + 1) cs
theorem rcB_ok {σ : Nat → Nat} {N k : Nat} {cs : T Value} : ∀ {vs : List Value} {j : Nat}, rcB σ N k vs j cs = true → ∀ i v, vs[i]? = some v → ∃ w, cs.get (j + i) = some w ∧ RV σ N v w
  | [], _, _, i, v, hv => by simp at hv
  | u :: vs, j, h, i, v, hv => by
    simp only [rcB, Bool.and_eq_true] at h
    cases i with
    | zero =>
      simp at hv; subst hv
      have h1 := h.1
      split at h1
      · rename_i w hw; exact ⟨w, hw, rvB_ok h1⟩
      · cases h1
    | succ i =>
      obtain ⟨w, h1, h2⟩ := rcB_ok h.2 i v (by simpa using hv)
      exact ⟨w, by rw [show j + (i + 1) = j + 1 + i by omega]; exact h1, h2⟩

/-- Objects written out. -/
inductive Ob where
  | row (vs : List Value) (e : TypeId)
  | map (es : List MapEntry) (cl : Nat)
def Ob.obj : Ob → AObj
  | .row vs e => rowOf e vs
  | .map es cl => .map es cl
def obB (σ : Nat → Nat) (N k : Nat) : Ob → Option AObj → Bool
  | .row vs e, some (.row n cs e') => Nat.ble vs.length n && rcB σ N k vs 0 cs && !(Nat.beq e roT) && !(Nat.beq e' roT)
  | .map es cl, some (.map es' cl') => Nat.beq cl cl' && rmsB σ N k es es'
  | _, _ => false
theorem obB_ok {σ : Nat → Nat} {N k : Nat} {o : Ob} {o1 : Option AObj} (h : obB σ N k o o1 = true) : ∃ q, o1 = some q ∧ q.live = true ∧ RO σ N o.obj q := by
  unfold obB at h
  split at h
  · rename_i vs e n cs e'
    simp only [Bool.and_eq_true, Bool.not_eq_true'] at h
    obtain ⟨⟨⟨h1, h2⟩, h3⟩, h4⟩ := h
    refine ⟨_, rfl, rfl, .row (by rw [h3, h4]) (Nat.le_of_ble_eq_true h1) (fun j v hj hv => ?_)⟩
    rw [T.get_ofListFrom, if_pos ⟨by omega, by omega⟩, Nat.sub_zero] at hv
    obtain ⟨w, q1, q2⟩ := rcB_ok h2 j v hv
    exact ⟨w, by simpa using q1, q2⟩
  · simp only [Bool.and_eq_true, Nat.beq_eq] at h
    obtain ⟨rfl, h2⟩ := h
    exact ⟨_, rfl, rfl, .map (rmsB_ok h2)⟩
  · cases h

/-- A heap written out: its objects from 0 on. -/
def heapOf (l : List Ob) : H := ⟨T.ofListFrom .nil 0 (l.map fun o => ⟨0, o.obj⟩), l.length, 1⟩
theorem heapOf_obj (l : List Ob) {a : Nat} {o : AObj} (h : (heapOf l).obj a = some o) : ∃ q, l[a]? = some q ∧ o = q.obj := by
  simp only [heapOf, H.obj, T.get_ofListFrom] at h
  by_cases hc : 0 ≤ a ∧ a < 0 + (l.map fun o => (⟨0, o.obj⟩ : Cell)).length
  · rw [if_pos hc] at h
    simp only [Nat.sub_zero, List.getElem?_map] at h
    cases hl : l[a]? with
    | none => rw [hl] at h; simp at h
    | some q => rw [hl] at h; simp at h; exact ⟨q, rfl, h.symm⟩
  · rw [if_neg hc] at h; simp [T.get] at h
theorem heapOf_wf (l : List Ob) : WFH (heapOf l) := by
  refine ⟨fun a c hc => ?_, fun a c hc => ?_⟩ <;> simp only [heapOf, T.get_ofListFrom] at hc ⊢
  · by_cases h : 0 ≤ a ∧ a < 0 + (l.map fun o => (⟨0, o.obj⟩ : Cell)).length
    · simpa using h.2
    · rw [if_neg h] at hc; simp [T.get] at hc
  · by_cases h : 0 ≤ a ∧ a < 0 + (l.map fun o => (⟨0, o.obj⟩ : Cell)).length
    · rw [if_pos h] at hc
      simp only [Nat.sub_zero, List.getElem?_map, Option.map_eq_some_iff] at hc
      obtain ⟨q, _, rfl⟩ := hc
      exact Nat.zero_lt_one
    · rw [if_neg h] at hc; simp [T.get] at hc

def objsB (σ : Nat → Nat) (N k : Nat) (h : H) : Nat → List Ob → Bool
  | _, [] => true
  | a, o :: l => obB σ N k o (h.obj (σ a)) && objsB σ N k h (a + 1) l
theorem objsB_ok {σ : Nat → Nat} {N k : Nat} {h : H} : ∀ {l : List Ob} {a : Nat}, objsB σ N k h a l = true → ∀ i q, l[i]? = some q → ∃ o1, h.obj (σ (a + i)) = some o1 ∧ o1.live = true ∧ RO σ N q.obj o1
  | [], _, _, i, q, hq => by simp at hq
  | o :: l, a, hb, i, q, hq => by
    simp only [objsB, Bool.and_eq_true] at hb
    cases i with
    | zero => simp at hq; subst hq; simpa using obB_ok hb.1
    | succ i =>
      have := objsB_ok hb.2 i q (by simpa using hq)
      rwa [show a + 1 + i = a + (i + 1) by omega] at this

def distinctB : List Nat → Bool
  | [] => true
  | a :: l => !(l.any (Nat.beq a)) && distinctB l
theorem distinctB_nodup : ∀ {l : List Nat}, distinctB l = true → l.Nodup
  | [], _ => List.nodup_nil
  | a :: l, h => by
    simp only [distinctB, Bool.and_eq_true, Bool.not_eq_true', List.any_eq_false] at h
    exact List.nodup_cons.2 ⟨fun hm => h.1 a hm (by simp), distinctB_nodup h.2⟩

/-- A state told anew: its slots by their values, its objects by the kernel's check; 'sl': the old numbers of the objects. -/
theorem Cov.chk {s : Fr} {h : H} {nt : Nat} (sl : List Nat) (l : List (Nat × Value)) (os : List Ob) (k : Nat) (hnt : s.nt = nt) (hdf : s.df = [])
    (hfr : ∀ p ∈ l, ∃ v, s.get p.1 = v ∧ RV (fun a => sl.getD a 0) os.length p.2 v) (hob : objsB (fun a => sl.getD a 0) os.length k h 0 os = true) (hd : distinctB sl = true) (hl : sl.length = os.length) :
    Cov 0 s h (frOf nt l) (heapOf os) := by
  have hnx : (heapOf os).next = os.length := rfl
  refine Cov.mk (fun a => sl.getD a 0) (fun _ h => absurd h (Nat.not_lt_zero _)) (Nat.zero_le _) (by rw [frOf_nt, hnt]) (by rw [hdf]; rfl) (fun d hd => by rw [hdf] at hd; cases hd) (fun t ht => ?_) (fun t ht => ?_) (heapOf_wf os) (fun a o ho _ _ => ?_) (fun a a' o o' ho ho' _ _ he => ?_)
  · rw [frOf_nt] at ht
    rw [frOf_get, if_pos ht]
    rcases slotOf_cases l t with h1 | ⟨v, h1, h3⟩
    · exact .inl h1
    · obtain ⟨v', q1, q2⟩ := hfr _ h1
      rw [h3, q1]; exact .inr q2
  · rw [frOf_nt] at ht
    rw [frOf_get, if_neg (by omega)]
  · obtain ⟨q, q1, rfl⟩ := heapOf_obj os ho
    have := objsB_ok hob a q q1
    rw [Nat.zero_add] at this
    exact this
  · obtain ⟨q, q1, _⟩ := heapOf_obj os ho
    obtain ⟨q', q1', _⟩ := heapOf_obj os ho'
    have h1 := (List.getElem?_eq_some_iff.1 q1).1
    have h2 := (List.getElem?_eq_some_iff.1 q1').1
    have hn := distinctB_nodup hd
    simp only [List.getD_eq_getElem?_getD, List.getElem?_eq_getElem (show a < sl.length by omega), List.getElem?_eq_getElem (show a' < sl.length by omega), Option.getD_some] at he
    exact (List.getElem_inj hn).1 he

/-! ### A function without arguments that answers a plain value -/

/-- Whatever it did: it answers so. -/
def constCon (v : Value) : Con := ⟨fun args _ => args = [], fun _ h => (v, h)⟩

theorem constCon_ok {P : Program} (hm : P.follows .mixedOrders = true) {f : FuncId} {n : Nat} {v : Value} {h1 : H} {o : O} (hv : okAtom v = true) (he : callGE P [] n f [] H.empty [] = .ok (v, h1, o)) (hob : o.ob) : (constCon v).Ok P f := by
  have hc := callGE_ok hm (kt := []) (fun _ h => by cases h) he hob
  have hsd := SemD.of_callOk hc
  have hs : SemD P f [] H.empty v H.empty := by
    intro ρ args' w a1 a2 a3 a4
    obtain ⟨k1, k2⟩ := hsd ρ args' w a1 a2 a3 a4
    refine ⟨k1, k2.mono ?_⟩
    rintro e w' ⟨ρ', v', rfl, q1, q2, q3, q4, q5⟩
    have hE : ∀ a, H.empty.obj a = none := fun a => by simp [H.obj, H.empty, T.get]
    refine ⟨fun _ => none, v', rfl, by rw [q1.atom_eq hv]; exact .atom hv, ⟨fun _ _ _ h => (by cases h), fun _ _ _ _ _ _ h => (by cases h), fun _ _ h => (by cases h)⟩, fun _ _ => rfl, fun x hx => absurd hx (Nat.not_lt_zero _),
      fun b hb hf => ⟨(q5.keep b hb hf).1, fun _ _ _ h => (by cases h)⟩, fun b hb hf => ⟨(q5.keepM b hb hf).1, fun _ _ _ h => (by cases h)⟩, q5.size, q5.env⟩
  intro args h hpre
  have hpre : args = [] := hpre
  subst hpre
  have hE : ∀ a, H.empty.obj a = none := fun a => by simp [H.obj, H.empty, T.get]
  exact CallOk.of_semD hs id WFH.empty (Nat.le_refl _) (fun x hx => absurd hx (Nat.not_lt_zero _)) .nil (fun a o ho => by rw [hE] at ho; cases ho) (fun a a' o o' ho => by rw [hE] at ho; cases ho) rfl (.atom hv) (AExt.refl h)
    (fun y o ho hl => .inl ⟨ho, fun x o0 h0 => by rw [hE] at h0; cases h0⟩) (fun _ _ _ _ _ _ _ _ => rfl)

/-- What a call came to, looked at. -/
abbrev CRes := Except String (Value × H × O)
def CRes.view (r : CRes) : Bool × Value × Prop := match r with
  | .ok (v, _, o) => (true, v, o.ob)
  | .error _ => (false, undef, False)
theorem CRes.of {r : CRes} {v : Value} {p : Prop} (h : r.view = (true, v, p)) : ∃ h1 o, r = .ok (v, h1, o) ∧ o.ob = p := by
  cases r with
  | error e => simp [CRes.view] at h
  | ok y =>
    obtain ⟨v', h1, o⟩ := y
    simp only [CRes.view, Prod.mk.injEq, true_and] at h
    exact ⟨h1, o, by rw [h.1], h.2⟩

end Go.Proofs.YtdocmpnofklaoaaGreatDoor.Ev

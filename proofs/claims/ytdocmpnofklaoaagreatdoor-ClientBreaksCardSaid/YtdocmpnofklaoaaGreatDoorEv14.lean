/- Statements whose order Go leaves open: whatever order is taken, it comes to what the text's order comes to. -/
import Derived.Test.YtdocmpnofklaoaaGreatDoorEv13
namespace Go.Proofs.YtdocmpnofklaoaaGreatDoor.Ev
open Go
set_option linter.unusedSimpArgs false

/-! ### What is behind what -/

theorem befGo_append : ∀ (l m : List Oper) (acc : List Nat), befGo acc (l ++ m) = befGo (befGo acc l) m
  | [], m, acc => rfl
  | o :: l, m, acc => by simp only [List.cons_append, befGo]; exact befGo_append l m _
theorem befGo_prefix : ∀ (l : List Oper) (acc : List Nat), ∃ r, befGo acc l = acc ++ r ∧ r.length = l.length
  | [], acc => ⟨[], by simp [befGo], rfl⟩
  | o :: l, acc => by
    obtain ⟨r, h1, h2⟩ := befGo_prefix l (acc ++ [(bnd o).foldl (fun m e => m ||| 2 ^ e.on ||| acc.getD e.on 0) 0])
    exact ⟨_ :: r, by rw [befGo, h1, List.append_assoc]; rfl, by simp [h2]⟩

theorem foldl_mask (f : Edge → Nat) : ∀ (es : List Edge) (m j : Nat), (es.foldl (fun m e => m ||| 2 ^ e.on ||| f e) m).testBit j = true → m.testBit j = true ∨ ∃ e ∈ es, e.on = j ∨ (f e).testBit j = true
  | [], m, j, h => .inl h
  | e :: es, m, j, h => by
    rcases foldl_mask f es _ j h with h | ⟨e', h1, h2⟩
    · simp only [Nat.testBit_or, Nat.testBit_two_pow, Bool.or_eq_true, decide_eq_true_eq] at h
      rcases h with (h | h) | h
      · exact .inl h
      · exact .inr ⟨e, List.mem_cons_self, .inl h⟩
      · exact .inr ⟨e, List.mem_cons_self, .inr h⟩
    · exact .inr ⟨e', List.mem_cons_of_mem _ h1, h2⟩

theorem befs_at {ops : Array Oper} {i : Nat} {o : Oper} (hi : ops[i]? = some o) (hlt : ∀ e ∈ (bnd o), e.on < i) :
    (befs ops).getD i 0 = (bnd o).foldl (fun m e => m ||| 2 ^ e.on ||| (befs ops).getD e.on 0) 0 := by
  obtain ⟨hn, hio⟩ := Array.getElem?_eq_some_iff.1 hi
  have hsplit : ops.toList = ops.toList.take i ++ o :: ops.toList.drop (i + 1) := by
    have : ops.toList.drop i = o :: ops.toList.drop (i + 1) := by
      rw [List.drop_eq_getElem_cons (by simpa using hn)]; simp [hio]
    rw [← this, List.take_append_drop]
  have hb : befs ops = befGo (befGo [] (ops.toList.take i)) (o :: ops.toList.drop (i + 1)) := by
    unfold befs; conv => lhs; rw [hsplit]
    exact befGo_append _ _ _
  obtain ⟨r0, h0, hl0⟩ := befGo_prefix (ops.toList.take i) []
  simp only [List.nil_append] at h0
  have hlen : r0.length = i := by rw [hl0]; simp; omega
  rw [h0, befGo] at hb
  obtain ⟨r1, h1, _⟩ := befGo_prefix (ops.toList.drop (i + 1)) (r0 ++ [(bnd o).foldl (fun m e => m ||| 2 ^ e.on ||| r0.getD e.on 0) 0])
  rw [h1] at hb
  have hget : (befs ops).getD i 0 = (bnd o).foldl (fun m e => m ||| 2 ^ e.on ||| r0.getD e.on 0) 0 := by
    rw [hb, List.getD_eq_getElem?_getD, List.append_assoc, List.getElem?_append_right (by omega)]
    simp [hlen]
  rw [hget]
  have hsame : ∀ k, k < i → (befs ops).getD k 0 = r0.getD k 0 := by
    intro k hk
    rw [hb, List.getD_eq_getElem?_getD, List.getD_eq_getElem?_getD, List.append_assoc, List.getElem?_append_left (by omega)]
  have : ∀ (es : List Edge) (m : Nat), (∀ e ∈ es, e.on < i) → es.foldl (fun m e => m ||| 2 ^ e.on ||| r0.getD e.on 0) m = es.foldl (fun m e => m ||| 2 ^ e.on ||| (befs ops).getD e.on 0) m := by
    intro es
    induction es with
    | nil => intro m _; rfl
    | cons e es ih =>
      intro m he
      simp only [List.foldl_cons]
      rw [hsame e.on (he e List.mem_cons_self)]
      exact ih _ (fun e' h' => he e' (List.mem_cons_of_mem _ h'))
  exact this _ _ hlt

/-- What lies behind an operation, where all that is listed has its own operations behind it listed. -/
theorem befs_closed {ops : Array Oper} {L : Nat → Prop} (hlt : ∀ (i : Nat) (o : Oper), ops[i]? = some o → ∀ e ∈ (bnd o), e.on < i)
    (hL : ∀ (i : Nat) (o : Oper), ops[i]? = some o → L i → ∀ e ∈ (bnd o), L e.on) : ∀ (n i : Nat) (o : Oper), i < n → ops[i]? = some o → (∀ e ∈ (bnd o), L e.on) → ∀ j, ((befs ops).getD i 0).testBit j = true → L j
  | 0, i, o, h, _, _, _, _ => by omega
  | n + 1, i, o, h, hi, he, j, hj => by
    rw [befs_at hi (hlt i o hi)] at hj
    rcases foldl_mask _ _ _ _ hj with hj | ⟨e, h1, h2⟩
    · simp at hj
    · rcases h2 with rfl | h2
      · exact he e h1
      · have hel := hlt i o hi e h1
        have hlt2 : e.on < ops.size := Nat.lt_trans hel (Array.getElem?_eq_some_iff.1 hi).1
        exact befs_closed hlt hL n e.on ops[e.on] (by omega) (by simp [hlt2]) (hL e.on _ (by simp [hlt2]) (he e h1)) j h2

theorem befs_lt {ops : Array Oper} (hlt : ∀ (i : Nat) (o : Oper), ops[i]? = some o → ∀ e ∈ (bnd o), e.on < i) {i : Nat} {o : Oper} (hi : ops[i]? = some o) {j : Nat} (hj : ((befs ops).getD i 0).testBit j = true) : j < i :=
  befs_closed (L := fun k => k < i) hlt (fun k o' hk hki e he => Nat.lt_trans (hlt k o' hk e he) hki) (i + 1) i o (Nat.lt_succ_self i) hi (hlt i o hi) j hj


/-! ### The text's own run -/

section
variable {P : Program} {ih : Ih}

theorem trace_steps {all : Array Oper} : ∀ {l : List Oper} {s : Fr} {h : H} {sts : List (Fr × H)}, opsTrace P ih all l s h = .ok sts →
    sts.length = l.length + 1 ∧ sts[0]? = some (s, h) ∧ ∀ (i : Nat) o, l[i]? = some o → ∃ si hi v si' hi', sts[i]? = some (si, hi) ∧ sts[i + 1]? = some (si', hi') ∧ opV P ih all o si hi = .ok (v, hi') ∧ si.put o.dst v = some si'
  | [], s, h, sts, he => by simp only [opsTrace] at he; cases he; simp
  | o :: l, s, h, sts, he => by
    simp only [opsTrace] at he
    split at he
    · cases he
    · rename_i v h1 hv
      split at he
      · cases he
      · rename_i s1 hs
        split at he
        · cases he
        · rename_i r hr
          cases he
          obtain ⟨k1, k2, k3⟩ := trace_steps hr
          refine ⟨by simp [k1], by simp, fun i o' hi => ?_⟩
          cases i with
          | zero =>
            simp at hi; subst hi
            exact ⟨s, h, v, s1, h1, by simp, by simpa using k2, hv, hs⟩
          | succ i =>
            obtain ⟨si, hh, v', si', hi', q1, q2, q3, q4⟩ := k3 i o' (by simpa using hi)
            exact ⟨si, hh, v', si', hi', by simpa using q1, by simpa using q2, q3, q4⟩

theorem cls_cases (op : Op) : cls P op = 0 ∨ cls P op = 1 ∨ cls P op = 2 ∨ cls P op = 3 := by
  unfold cls; split <;> first | simp | (split <;> simp)

/-- How an operation of the text's run went. -/
inductive Went (P : Program) (ih : Ih) (all : Array Oper) (o : Oper) (s : Fr) (h : H) (v : Value) (h' : H) : Prop
  | skip (hw : wantedA all s o = false) (hv : v = undef) (hh : h' = h)
  | pure (hw : wantedA all s o = true) (hc : cls P o.op = 0) (hx : execP P s o.op = some v) (hh : h' = h)
  | alloc (ob : AObj) (hw : wantedA all s o = true) (hc : cls P o.op = 1) (hx : execA P s o.op h.next = some (v, ob)) (hh : h' = h.new ob)
  | read (hw : wantedA all s o = true) (hc : cls P o.op = 2) (hx : execR P s h.obj o.op = some v) (hh : h' = h)
  | act (hw : wantedA all s o = true) (hc : cls P o.op = 3)

theorem opV_guard {all : Array Oper} {o : Oper} {s : Fr} {h h' : H} {v : Value} (he : opV P ih all o s h = .ok (v, h')) : guardOk all s o = true := by
  unfold opV at he; exact (exc_false he).1

theorem went {all : Array Oper} {o : Oper} {s : Fr} {h h' : H} {v : Value} (he : opV P ih all o s h = .ok (v, h')) : Went P ih all o s h v h' := by
  unfold opV at he
  replace he := (exc_false he).2
  rcases cond_or he with ⟨hw, he⟩ | ⟨hw, he⟩
  · rcases cls_cases (P := P) o.op with hc | hc | hc | hc
    · unfold exec at he; rw [hc] at he
      cases hx : execP P s o.op with
      | none => rw [hx] at he; cases he
      | some u => rw [hx] at he; cases he; exact .pure hw hc hx rfl
    · unfold exec at he; rw [hc] at he
      cases hx : execA P s o.op h.next with
      | none => rw [hx] at he; cases he
      | some u => rw [hx] at he; obtain ⟨u, ob⟩ := u; cases he; exact .alloc ob hw hc hx rfl
    · unfold exec at he; rw [hc] at he
      cases hx : execR P s h.obj o.op with
      | none => rw [hx] at he; cases he
      | some u => rw [hx] at he; cases he; exact .read hw hc hx rfl
    · exact .act hw hc
  · cases he; exact .skip hw rfl rfl

/-- A reading hangs on the one block that it reads. -/
theorem loadN_congr {g g' : Nat → Option AObj} {b o n : Nat} (h : g' b = g b) : loadN g' b o n = loadN g b o n := by unfold loadN; rw [h]
theorem loadT_congr {g g' : Nat → Option AObj} {t : TypeId} {a : Addr} (h : g' a.block = g a.block) : loadT P g' t a = loadT P g t a := by
  have hl : ∀ o n, loadN g' a.block o n = loadN g a.block o n := fun o n => loadN_congr h
  unfold loadT; simp only [hl]

theorem execR_congr {s : Fr} {g g' : Nat → Option AObj} {op : Op} (h : ∀ b, rdBlk s op = some b → g' b = g b) : execR P s g' op = execR P s g op := by
  cases op with
  | load t x =>
    simp only [execR]
    cases hx : ev s x with
    | none => rfl
    | some u =>
      cases u with
      | pointer q => cases q with
        | none => rfl
        | some b => exact loadT_congr (h b.block (by simp [rdBlk, hx]))
      | _ => rfl
  | lookup t x k ok =>
    simp only [execR]
    split
    · rename_i kt e m kv hd hx hk
      split
      · cases m with
        | map q => cases q with
          | none => rfl
          | some b => dsimp only; rw [h b (by simp [rdBlk, hx])]
        | _ => rfl
      · rfl
    · rfl
  | convert t u x =>
    simp only [execR]
    split <;> first
      | rfl
      | (rename_i b n c _ _ hx
         have hb := h b.block (by simp [rdBlk, hx])
         have hl : ∀ o n, loadN g' b.block o n = loadN g b.block o n := fun o n => loadN_congr hb
         simp only [hb, hl])
  | call c =>
    simp only [execR]
    split
    · split
      · rename_i t x hty hax
        split <;> first
          | rfl
          | (rename_i k e b _ hx
             rw [h b (by simp only [rdBlk]; rw [show c.args[0]? = some x from hax]; simp [hx])])
      · rfl
    · rfl
  | _ => rfl

end
end Go.Proofs.YtdocmpnofklaoaaGreatDoor.Ev

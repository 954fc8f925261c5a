/- The operations that act: stores, maps, append. -/
import Derived.Test.YtdocmpnofklaoaaGreatDoorEv8
import Derived.MapKept
namespace Go.Proofs.YtdocmpnofklaoaaGreatDoor.Ev
open Go
set_option linter.unusedSimpArgs false

section
variable {P : Program} {ρ : Rho} {s : Fr} {a : Act} {g : Nat → Option AObj}

def setAll (arr : Array Value) : Nat → List Value → Array Value
  | _, [] => arr
  | k, v :: vs => setAll (arr.setIfInBounds k v) (k + 1) vs

theorem setAll_size : ∀ (vs : List Value) (arr : Array Value) (k : Nat), (setAll arr k vs).size = arr.size
  | [], _, _ => rfl
  | v :: vs, arr, k => by rw [setAll, setAll_size vs]; simp

theorem setAll_get : ∀ (vs : List Value) (arr : Array Value) (k j : Nat), k + vs.length ≤ arr.size → (setAll arr k vs)[j]? = if k ≤ j ∧ j < k + vs.length then vs[j - k]? else arr[j]?
  | [], arr, k, j, _ => by rw [setAll, if_neg (by simp)]
  | v :: vs, arr, k, j, h => by
    simp only [List.length_cons] at h
    rw [setAll, setAll_get vs _ _ _ (by simp; omega)]
    by_cases h1 : k + 1 ≤ j ∧ j < k + 1 + vs.length
    · rw [if_pos h1, if_pos (by simp; omega), show j - k = (j - (k + 1)) + 1 by omega]; rfl
    · rw [if_neg h1]
      by_cases e : j = k
      · subst e
        rw [if_pos (by simp)]
        simp only [Nat.sub_self, List.getElem?_cons_zero]
        rw [Array.getElem?_setIfInBounds_self_of_lt (by omega)]
      · rw [if_neg (by simp; omega), Array.getElem?_setIfInBounds_ne (Ne.symm e)]

theorem putAll_get : ∀ (vs : List Value) (cs : T Value) (o m : Nat), (putAll cs o vs).get m = if o ≤ m ∧ m < o + vs.length then vs[m - o]? else cs.get m
  | [], cs, o, m => by rw [putAll, if_neg (by simp)]
  | v :: vs, cs, o, m => by
    rw [putAll, putAll_get vs, T.get_put]
    by_cases h : o + 1 ≤ m ∧ m < o + 1 + vs.length
    · rw [if_pos h, if_pos (by simp; omega), show m - o = (m - (o + 1)) + 1 by omega]; rfl
    · rw [if_neg h]
      by_cases e : m = o
      · subst e; simp
      · rw [if_neg e, if_neg (by simp; omega)]

theorem run_storeAll (b o : Nat) : ∀ (vs : List Value) (i : Nat) (w : World) (arr : Array Value) (e : TypeId) (fr : Nat × Nat), w.heap[b]? = some (.cells arr e fr) → (fr.1 = fr.2 ∨ arr.size ≤ fr.1) →
    o + i + vs.length ≤ arr.size → vs.all Value.oneCell' = true → ∃ w', (storeCells ⟨b, o, none⟩ vs i).run P w = .ok () w' ∧ w'.heap[b]? = some (.cells (setAll arr (o + i) vs) e fr) ∧
      (∀ x, x ≠ b → w'.heap[x]? = w.heap[x]?) ∧ (w'.heap.size = w.heap.size ∧ Env w w')
  | [], i, w, arr, e, fr, hb, _, _, _ => ⟨w, by simp [storeCells], hb, fun _ _ => rfl, rfl, Env.refl w⟩
  | v :: vs, i, w, arr, e, fr, hb, hfr, hle, hv => by
    simp only [List.length_cons] at hle
    simp only [List.all_cons, Bool.and_eq_true] at hv
    have hlt : b < w.heap.size := (Array.getElem?_eq_some_iff.1 hb).1
    have hc : w.cell? ⟨b, o + i, none⟩ = some (arr[o + i]'(by omega)) := by rw [cell_of hb]; simp [show o + i < arr.size by omega]
    have hf : w.frozen? ⟨b, o + i, none⟩ = false := by
      simp only [World.frozen?, hb]
      rcases hfr with h | h
      · rw [Bool.and_eq_false_iff, decide_eq_false_iff_not, decide_eq_false_iff_not]; omega
      · rw [Bool.and_eq_false_iff, decide_eq_false_iff_not, decide_eq_false_iff_not]; left; omega
    have hs : (w.setCell ⟨b, o + i, none⟩ v).heap[b]? = some (.cells (arr.setIfInBounds (o + i) v) e fr) := by
      simp [World.setCell, Array.getElem?_modify, hb]
    have hs2 : ∀ x, x ≠ b → (w.setCell ⟨b, o + i, none⟩ v).heap[x]? = w.heap[x]? := by
      intro x hx; simp [World.setCell, Array.getElem?_modify, Ne.symm hx]
    obtain ⟨w', h1, h2, h3, h4⟩ := run_storeAll b o vs (i + 1) (w.setCell ⟨b, o + i, none⟩ v) _ e fr hs (by simpa using hfr) (by simp; omega) hv.2
    refine ⟨w', ?_, h2, fun x hx => (h3 x hx).trans (hs2 x hx), by rw [h4.1]; simp [World.setCell], Env.trans ⟨rfl, rfl⟩ h4.2⟩
    simp only [storeCells, Sem.run_bind, addr_add, run_store P w _ v .plain hv.1, hc, hf, Bool.false_eq_true, if_false, Result.andThen_ok, h1]

/-! ### One object changes -/

theorem ext_upd {h : H} {w w' : World} {b : Nat} {i : BI} {ob o' : AObj} (hi : ρ b = some i) (hb : h.obj b = some ob) (hm : ob.mut = true) (hg : HR ρ h.obj w)
    (ho : OR ρ i o' w'.heap[i.b]?) (hx : ∀ x, x ≠ i.b → w'.heap[x]? = w.heap[x]?) (hsz : w'.heap.size = w.heap.size ∧ Env w w') (hwf : WFH h) :
    HR ρ (h.upd b o').obj w' ∧ Ext ρ h w ρ (h.upd b o') w' := by
  have hl := AObj.mut_live hm
  refine ⟨⟨fun a i' oo hi' hoo => ?_, fun a a' i1 i2 o1 o2 h1 h2 h3 h4 h5 h6 h7 => ?_, fun a i' hi' => by rw [hsz.1]; exact hg.lt a i' hi'⟩, ?_⟩
  · rw [H.obj_upd] at hoo
    by_cases e : a = b
    · subst e; rw [if_pos rfl] at hoo; rw [hi] at hi'; simp at hi' hoo; subst hi'; subst hoo; exact ho
    · rw [if_neg e] at hoo
      cases hlo : oo.live with
      | false => cases oo <;> simp [AObj.live] at hlo; trivial
      | true => rw [hx i'.b (fun e' => e ((hg.inj b a i i' ob oo hi hi' hb hoo hm hlo e'.symm).symm))]; exact hg.obj a i' oo hi' hoo
  · rw [H.obj_upd] at h3 h4
    by_cases e : a = b <;> by_cases e' : a' = b
    · rw [e, e']
    · subst e; rw [if_neg e'] at h4
      exact hg.inj a a' i1 i2 ob o2 h1 h2 hb h4 hm h6 h7
    · subst e'; rw [if_neg e] at h3
      exact hg.inj a a' i1 i2 o1 ob h1 h2 h3 hb h5 hl h7
    · rw [if_neg e] at h3; rw [if_neg e'] at h4
      exact hg.inj a a' i1 i2 o1 o2 h1 h2 h3 h4 h5 h6 h7
  · refine ⟨Sub.refl ρ, fun a h1 h2 => by rw [h1] at h2; simp at h2, fun x hlt hf => ⟨hx x (fun e => hf b i ob hi hb hl e.symm), fun a i' oo hi' hoo hlo => ?_⟩, fun x hlt hf => ⟨hx x (fun e => hf b i ob hi hb hm e.symm), fun a i' oo hi' hoo hlo => ?_⟩, by rw [hsz.1]; exact Nat.le_refl _, Nat.le_refl _, Nat.le_succ _, fun a ha hn => ?_, fun a ha => ?_, fun hw => ⟨fun a c hc => ?_, fun a c hc => ?_⟩, hsz.2⟩
    · rw [H.obj_upd] at hoo
      by_cases e : a = b
      · subst e; rw [hi] at hi'; simp at hi'; subst hi'; exact hf a i ob hi hb hl
      · rw [if_neg e] at hoo; exact hf a i' oo hi' hoo hlo
    · rw [H.obj_upd] at hoo
      by_cases e : a = b
      · subst e; rw [hi] at hi'; simp at hi'; subst hi'; exact hf a i ob hi hb hm
      · rw [if_neg e] at hoo; exact hf a i' oo hi' hoo hlo
    · have : a ≠ b := fun e => by subst e; rw [hi] at hn; simp at hn
      simp [H.upd, T.get_put, this]
    · by_cases e : a = b
      · subst e; exact .inr ⟨⟨h.clk, o'⟩, by simp [H.upd, T.get_put], Nat.le_refl _⟩
      · exact .inl (by simp [H.upd, T.get_put, e])
    · simp only [H.upd, T.get_put] at hc
      by_cases e : a = b
      · subst e; exact hwf.obj_lt hb
      · rw [if_neg e] at hc; exact hw.lt a c hc
    · simp only [H.upd, T.get_put] at hc ⊢
      by_cases e : a = b
      · subst e; simp at hc; subst hc; exact Nat.lt_succ_self _
      · rw [if_neg e] at hc; exact Nat.lt_succ_of_lt (hw.ver a c hc)

theorem ext_same {h : H} {w w' : World} (hsz : w'.heap.size = w.heap.size ∧ Env w w') (hk : ∀ b, FreeM ρ h.obj b → w'.heap[b]? = w.heap[b]?) : Ext ρ h w ρ h w' :=
  ⟨Sub.refl ρ, fun a h1 h2 => by rw [h1] at h2; simp at h2, fun b _ hf => ⟨hk b hf.m, hf⟩, fun b _ hf => ⟨hk b hf, hf⟩, by rw [hsz.1]; exact Nat.le_refl _, Nat.le_refl _, Nat.le_refl _, fun _ _ _ => rfl, fun _ _ => .inl rfl, id, hsz.2⟩

/-- A new object that stands for a new block. -/
theorem ext_new {h : H} {w w' : World} {ob : AObj} {o' : Obj} {N : Nat} (hn : ρ h.next = none) (hg : HR ρ h.obj w) (hh : w'.heap = w.heap.push o' ∧ Env w w')
    (ho : OR (Upd ρ h.next ⟨w.heap.size, 0, N⟩) ⟨w.heap.size, 0, N⟩ ob (some o')) :
    HR (Upd ρ h.next ⟨w.heap.size, 0, N⟩) (h.new ob).obj w' ∧ Ext ρ h w (Upd ρ h.next ⟨w.heap.size, 0, N⟩) (h.new ob) w' := by
  have hs := Upd.sub (ρ := ρ) ⟨w.heap.size, 0, N⟩ hn
  have hold : ∀ a i, Upd ρ h.next ⟨w.heap.size, 0, N⟩ a = some i → a ≠ h.next → ρ a = some i := by
    intro a i h1 h2; simpa [Upd, h2] using h1
  have hnew : ∀ i, Upd ρ h.next ⟨w.heap.size, 0, N⟩ h.next = some i → i = ⟨w.heap.size, 0, N⟩ := by
    intro i h1; rw [Upd.same] at h1; simpa using h1.symm
  have hp : ∀ b, b < w.heap.size → w'.heap[b]? = w.heap[b]? := by
    intro b hb; rw [hh.1, Array.getElem?_push_lt hb, Array.getElem?_eq_getElem hb]
  refine ⟨⟨fun a i oo hi hoo => ?_, fun a a' i1 i2 o1 o2 h1 h2 h3 h4 h5 h6 h7 => ?_, fun a i hi => ?_⟩, ?_⟩
  · rw [H.obj_new] at hoo
    by_cases e : a = h.next
    · subst e; rw [if_pos rfl] at hoo; simp at hoo; subst hoo
      obtain rfl := hnew i hi
      rw [hh.1]; simpa using ho
    · rw [if_neg e] at hoo
      have hi' := hold a i hi e
      rw [hp i.b (hg.lt a i hi')]
      exact (hg.obj a i oo hi' hoo).mono hs
  · rw [H.obj_new] at h3 h4
    by_cases e : a = h.next <;> by_cases e' : a' = h.next
    · rw [e, e']
    · subst e; obtain rfl := hnew i1 h1
      have := hg.lt a' i2 (hold a' i2 h2 e')
      dsimp only at h7; omega
    · subst e'; obtain rfl := hnew i2 h2
      have := hg.lt a i1 (hold a i1 h1 e)
      dsimp only at h7; omega
    · rw [if_neg e] at h3; rw [if_neg e'] at h4
      exact hg.inj a a' i1 i2 o1 o2 (hold a i1 h1 e) (hold a' i2 h2 e') h3 h4 h5 h6 h7
  · by_cases e : a = h.next
    · subst e; obtain rfl := hnew i hi; rw [hh.1]; simp
    · have := hg.lt a i (hold a i hi e); rw [hh.1]; simp; omega
  · refine ⟨hs, fun a h1 h2 => ?_, fun b hb hf => ⟨hp b hb, fun a i oo hi hoo hlo => ?_⟩, fun b hb hf => ⟨hp b hb, fun a i oo hi hoo hlo => ?_⟩, by rw [hh.1]; simp, Nat.le_succ _, Nat.le_succ _, fun a ha _ => ?_, fun a ha => .inl ?_, fun hw => ⟨fun a c hc => ?_, fun a c hc => ?_⟩, hh.2⟩
    · by_cases e : a = h.next
      · subst e; exact ⟨Nat.le_refl _, Nat.lt_succ_self _⟩
      · simp [Upd, e, h1] at h2
    · rw [H.obj_new] at hoo
      by_cases e : a = h.next
      · subst e; obtain rfl := hnew i hi; dsimp only; omega
      · rw [if_neg e] at hoo; exact hf a i oo (hold a i hi e) hoo hlo
    · rw [H.obj_new] at hoo
      by_cases e : a = h.next
      · subst e; obtain rfl := hnew i hi; dsimp only; omega
      · rw [if_neg e] at hoo; exact hf a i oo (hold a i hi e) hoo hlo
    · simp [H.new, T.get_put, show a ≠ h.next by omega]
    · simp [H.new, T.get_put, show a ≠ h.next by omega]
    · simp only [H.new, T.get_put] at hc ⊢
      by_cases e : a = h.next
      · omega
      · rw [if_neg e] at hc; exact Nat.lt_succ_of_lt (hw.lt a c hc)
    · simp only [H.new, T.get_put] at hc ⊢
      by_cases e : a = h.next
      · rw [if_pos e] at hc; simp at hc; subst hc; exact Nat.lt_succ_self _
      · rw [if_neg e] at hc; exact Nat.lt_succ_of_lt (hw.ver a c hc)

/-- Cells of a live row are written. -/
theorem storeN_sim {h h' : H} {w : World} {b o : Nat} {vs vs' : List Value} {i : BI} (hs : storeN h b o vs = some h') (hi : ρ b = some i) (hg : HR ρ h.obj w) (hwf : WFH h) (hv : VRs ρ vs vs') :
    ∃ w', (storeCells ⟨i.b, i.base + o, none⟩ vs').run P w = .ok () w' ∧ HR ρ h'.obj w' ∧ Ext ρ h w ρ h' w' := by
  cases hv with
  | nil => simp [storeN] at hs; subst hs; exact ⟨w, by simp [storeCells], hg, Ext.refl ρ h w⟩
  | cons hv ht =>
    rename_i v v' vs vs'
    simp only [storeN] at hs
    split at hs
    · rename_i m cs e hb
      obtain ⟨hc, hs⟩ := opt_false hs
      simp at hs; subst hs
      simp only [Bool.and_eq_true, Bool.not_eq_true'] at hc
      have hro := hc.2
      replace hc := hc.1
      have hc1 := Nat.le_of_ble_eq_true hc.1
      have hmut : (AObj.row m cs e).mut = true := by simp [AObj.mut, AObj.live, AObj.ro, hro]
      obtain ⟨arr, e', fr, h1, h2, h3, h4, h5⟩ := hg.obj b i _ hi hb
      replace h4 := h4.resolve_left (by rw [hro]; simp)
      have hvv := VRs.cons hv ht
      have hlen := hvv.length
      simp only [List.length_cons] at hlen hc1
      obtain ⟨w', k1, k2, k3, k4⟩ := run_storeAll (P := P) i.b (i.base + o) (v' :: vs') 0 w arr e' fr h1 (by rw [h2]; exact h4) (by simp only [List.length_cons]; omega) (by rw [hvv.oneCell]; exact hc.2)
      refine ⟨w', k1, ext_upd hi hb hmut hg ⟨_, e', fr, k2, by rw [setAll_size, h2], h3, .inr h4, fun j u hj hu => ?_⟩ k3 k4 hwf⟩
      rw [putAll_get] at hu
      rw [setAll_get _ _ _ _ (by simp only [List.length_cons]; omega)]
      simp only [List.length_cons] at hu ⊢
      by_cases hjj : o ≤ j ∧ j < o + (vs.length + 1)
      · rw [if_pos hjj] at hu
        rw [if_pos (by omega), show i.base + j - (i.base + o + 0) = j - o by omega]
        exact hvv.get hu
      · rw [if_neg hjj] at hu
        rw [if_neg (by omega)]
        exact h5 j u hj hu
    · simp at hs

/-- What an acting operation comes to. -/
def SimE (P : Program) (ρ : Rho) (h : H) (w : World) (a : Act) (o : Oper) : ANext → Prop
  | .val v h' => ∃ ρ' w' v', (execOp a.eval o).run P w = .ok (.value v') w' ∧ VR ρ' v v' ∧ HR ρ' h'.obj w' ∧ Ext ρ h w ρ' h' w'
  | .skip h' => ∃ ρ' w', (execOp a.eval o).run P w = .ok .skip w' ∧ HR ρ' h'.obj w' ∧ Ext ρ h w ρ' h' w'
  | .enter f args => ∃ args', (execOp a.eval o).run P w = (callFunc f args').run P w ∧ VRs ρ args args'.toList

theorem simStore {o : Oper} {t : TypeId} {x y : Operand} {h : H} {w : World} {r : ANext} (ho : o.op = .store t x y) (he : execE P s h o.op = some r) (ht : TR ρ s a.tmps) (hg : HR ρ h.obj w) (hwf : WFH h) :
    SimE P ρ h w a o r := by
  rw [ho] at he; simp only [execE] at he
  split at he
  · rename_i b v hx hy
    split at he
    · rename_i n hn
      obtain ⟨hc, he⟩ := opt_false he
      simp only [Bool.and_eq_true, Nat.beq_eq] at hc
      split at he
      · rename_i h' hs
        simp at he; subst he
        have hv := ht.ev hy
        have hp := ht.ev hx
        generalize e : a.eval x = u at hp
        cases hp with
        | atom hh => simp [okAtom] at hh
        | ptr h1 h2 =>
          rename_i i
          obtain ⟨w', k1, k2, k3⟩ := storeN_sim (P := P) hs h1 hg hwf hv.cells
          refine ⟨ρ, w', ?_, k2, k3⟩
          have hsz : (a.eval y).cells.size = n := by have := hv.cells.length; rw [← hc.1]; simpa using this.symm
          simp [execOp, ho, e, Instr.storeAt, Instr.sureAddr, storeVar, sizeO_run hn, hsz, k1]
      · simp at he
    · simp at he
  · simp at he

theorem MRs.modify {es es' : List MapEntry} {k k' v v' : Value} (h : MRs ρ es es') (hk : VR ρ k k') (hv : VR ρ v v') : ∀ n, MRs ρ (es.modify n fun e => { e with key := k, val := v }) (es'.modify n fun e => { e with key := k', val := v' }) := by
  induction h with
  | nil => intro n; simp; exact .nil
  | cons a b c t ih =>
    intro n
    cases n with
    | zero => simp; exact .cons hk hv c t
    | succ n => simp; exact .cons a b c (ih n)
theorem MRs.erase {es es' : List MapEntry} (h : MRs ρ es es') : ∀ n, MRs ρ (es.eraseIdx n) (es'.eraseIdx n) := by
  induction h with
  | nil => intro n; simp; exact .nil
  | cons a b c t ih =>
    intro n
    cases n with
    | zero => simpa using t
    | succ n => simp; exact .cons a b c (ih n)
theorem MRs.snoc {es es' : List MapEntry} {e e' : MapEntry} (h : MRs ρ es es') (hk : VR ρ e.key e'.key) (hv : VR ρ e.val e'.val) (hb : e'.born = e.born) : MRs ρ (es ++ [e]) (es' ++ [e']) := by
  induction h with
  | nil => exact .cons hk hv hb .nil
  | cons a b c t ih => exact .cons a b c ih

theorem findNow_at {d : TypeDesc} {k : Value} : ∀ {es : List MapEntry} {n i : Nat} {v : Value}, Instr.findNow d k es n = some (some (i, v)) → ∃ e, n ≤ i ∧ es[i - n]? = some e ∧ Instr.sameNow d k e.key = some true
  | [], n, i, v, h => by simp [Instr.findNow] at h
  | e :: es, n, i, v, h => by
    simp only [Instr.findNow] at h
    split at h
    · rename_i hs; simp at h; obtain ⟨rfl, _⟩ := h; exact ⟨e, Nat.le_refl _, by simp, hs⟩
    · obtain ⟨e', h1, h2, h3⟩ := findNow_at h
      refine ⟨e', by omega, ?_, h3⟩
      rw [show i - n = (i - (n + 1)) + 1 by omega]; exact h2
    · simp at h

theorem sameBits_of {d : TypeDesc} {k e : Value} {n : Nat} (h : Instr.sameNow d k e = some true) : Instr.sameBits n e k = true := by
  unfold Instr.sameNow at h
  split at h
  · rename_i x y x' y' 
    split at h
    · rename_i hk; subst hk; simp at h; subst h; simp [Instr.sameBits]
    · simp at h
  · simp only [Option.some.injEq] at h; rw [MapKept.bytes_beq] at h; subst h; simp only [Instr.sameBits]; rw [MapKept.bytes_beq]
  · simp only [Option.some.injEq, beq_iff_eq] at h; subst h; simp [Instr.sameBits]
  · simp at h

theorem getObj_map {w : World} {b cl : Nat} {es : Array MapEntry} (hb : w.heap[b]? = some (.map es cl)) : (getObj b).run P w = .ok (.map es cl) w := by simp [getObj, Sem.run, hb]
theorem setObj_map {w : World} {b cl : Nat} {es : Array MapEntry} (o : Obj) (hb : w.heap[b]? = some (.map es cl)) :
    (setObj b o).run P w = .ok () { w with heap := w.heap.setIfInBounds b o } := by simp [setObj, Sem.run, hb]

theorem heap_set {w : World} {b : Nat} {o ob : Obj} (hb : w.heap[b]? = some ob) : (({ w with heap := w.heap.setIfInBounds b o } : World).heap[b]? = some o) ∧
    (∀ x, x ≠ b → ({ w with heap := w.heap.setIfInBounds b o } : World).heap[x]? = w.heap[x]?) ∧ (({ w with heap := w.heap.setIfInBounds b o } : World).heap.size = w.heap.size ∧ Env w { w with heap := w.heap.setIfInBounds b o }) := by
  have hlt : b < w.heap.size := (Array.getElem?_eq_some_iff.1 hb).1
  refine ⟨by simp [Array.getElem?_setIfInBounds_self_of_lt hlt], fun x hx => by simp [Array.getElem?_setIfInBounds_ne (Ne.symm hx)], by simp, rfl, rfl⟩

theorem simMapUpdate {o : Oper} {t : TypeId} {x k y : Operand} {h : H} {w : World} {r : ANext} (ho : o.op = .mapUpdate t x k y ∨ o.op = .insert t x k y) (he : execE P s h o.op = some r) (ht : TR ρ s a.tmps) (hg : HR ρ h.obj w) (hwf : WFH h) :
    SimE P ρ h w a o r := by
  replace he : mapUpd P s h t x k y = some r := by rcases ho with ho | ho <;> (rw [ho] at he; exact he)
  unfold mapUpd at he
  split at he
  · rename_i kt et b kv v hd hx hk hy
    split at he
    · rename_i d es cl hkd hb
      obtain ⟨hp, he⟩ := opt_false he
      have hv := ht.ev hy
      have hkv := ht.ev hk
      have hm := ht.ev hx
      generalize e : a.eval x = u at hm
      cases hm with
      | atom hh => simp [okAtom] at hh
      | map h1 =>
        rename_i i
        obtain ⟨es', k1, k2⟩ := hg.obj _ _ _ h1 hb
        have hch : (Instr.checkKey false 10000 kt (a.eval k)).run P w = .ok () w := checkKey_ok (n := 9999) hkd hp w
        split at he
        · rename_i p hf
          simp at he; subst he
          obtain ⟨r', f1, f2⟩ := findNow_rel hkv k2 hf
          cases f2 with
          | @some i1 v1 v1' hvv =>
            obtain ⟨ee, g1, g2, g3⟩ := findNow_at f1
            have hkeep : (Instr.keyThatStays (((es'[i1]?).map (·.key)).getD (a.eval k)) (a.eval k)).run P w = .ok (a.eval k) w := by
              have : es'[i1]? = some ee := by simpa using g2
              simp [Instr.keyThatStays, this, sameBits_of g3]
            let o2 : Obj := .map (es'.modify i1 fun e => { e with key := a.eval k, val := a.eval y }) cl
            obtain ⟨s1, s2, s3⟩ := heap_set (o := o2) k1
            have hrun : (Instr.mapUpdate t (.map (some i.b)) (a.eval k) (a.eval y)).run P w = .ok () { w with heap := w.heap.setIfInBounds i.b o2 } := by
              simp only [Instr.mapUpdate, Sem.run_bind, run_under hd, Result.andThen_ok, getObj_map k1, hch, findKey_ok (P := P) hkd f1 w, hkeep]
              exact setObj_map o2 k1
            refine ⟨ρ, { w with heap := w.heap.setIfInBounds i.b o2 }, by rcases ho with ho | ho <;> simp only [execOp, ho, e, Sem.run_bind, hrun, Result.andThen_ok, Sem.run_pure], ?_⟩
            refine ext_upd h1 hb rfl hg ?_ s2 s3 hwf
            rw [s1]
            exact ⟨_, rfl, by rw [Array.toList_modify]; exact k2.modify hkv hv i1⟩
        · rename_i hf
          simp at he; subst he
          obtain ⟨r', f1, f2⟩ := findNow_rel hkv k2 hf
          cases f2 with
          | none =>
            let o2 : Obj := .map (es'.push { key := a.eval k, val := a.eval y, born := cl }) (cl + 1)
            obtain ⟨s1, s2, s3⟩ := heap_set (o := o2) k1
            have hrun : (Instr.mapUpdate t (.map (some i.b)) (a.eval k) (a.eval y)).run P w = .ok () { w with heap := w.heap.setIfInBounds i.b o2 } := by
              simp only [Instr.mapUpdate, Sem.run_bind, run_under hd, Result.andThen_ok, getObj_map k1, hch, findKey_ok (P := P) hkd f1 w]
              exact setObj_map o2 k1
            refine ⟨ρ, { w with heap := w.heap.setIfInBounds i.b o2 }, by rcases ho with ho | ho <;> simp only [execOp, ho, e, Sem.run_bind, hrun, Result.andThen_ok, Sem.run_pure], ?_⟩
            refine ext_upd h1 hb rfl hg ?_ s2 s3 hwf
            rw [s1]
            exact ⟨_, rfl, by rw [Array.toList_push]; exact k2.snoc hkv hv rfl⟩
        · simp at he
    · simp at he
  · simp at he

theorem simDelete {o : Oper} {c : Call} {h : H} {w : World} {r : ANext} (ho : o.op = .call c) (hcal : c.callee = .builtin .delete) (he : execE P s h o.op = some r) (ht : TR ρ s a.tmps) (hg : HR ρ h.obj w) (hwf : WFH h) :
    SimE P ρ h w a o r := by
  rw [ho] at he; simp only [execE, hcal] at he
  split at he
  · rename_i t b kv hty hvs
    split at he
    · rename_i kt et es cl hd hb
      split at he
      · rename_i d hkd
        obtain ⟨hp, he⟩ := opt_false he
        have hargs := ht.evs hvs
        have hal : ∃ kv', (c.args.toList.map a.eval) = [.map (some (match ρ b with | some i => i.b | none => 0)), kv'] ∧ VR ρ kv kv' ∧ ∃ i, ρ b = some i := by
          generalize (c.args.toList.map a.eval) = al at hargs
          cases hargs with
          | cons hm hrest =>
            cases hrest with
            | cons hk hnil =>
              cases hnil
              cases hm with
              | atom hh => simp [okAtom] at hh
              | map h1 => exact ⟨_, by rw [h1], hk, _, h1⟩
        obtain ⟨kv', hal, hkv, i, h1⟩ := hal
        rw [h1] at hal; dsimp only at hal
        have hA : c.args.map a.eval = #[.map (some i.b), kv'] := by
          apply Array.ext'; simpa using hal
        obtain ⟨es', k1, k2⟩ := hg.obj _ _ _ h1 hb
        have hch : ∀ bb, (Instr.checkKey bb 10000 kt kv').run P w = .ok () w := fun bb => checkKey_ok (n := 9999) hkd hp w
        have hexec : ∀ w', (Builtin.delete_ c.argTypes o.type #[.map (some i.b), kv']).run P w = .ok (.tuple #[]) w' → (execOp a.eval o).run P w = .ok (.value (.tuple #[])) w' := by
          intro w' hw'
          simp [execOp, ho, resolve, hcal, invoke, builtin, hA, hw']
        split at he
        · rename_i p hf
          simp at he; subst he
          obtain ⟨r', f1, f2⟩ := findNow_rel hkv k2 hf
          cases f2 with
          | @some i1 v1 v1' hvv =>
            let o2 : Obj := .map (es'.eraseIdxIfInBounds i1) cl
            obtain ⟨s1, s2, s3⟩ := heap_set (o := o2) k1
            refine ⟨ρ, { w with heap := w.heap.setIfInBounds i.b o2 }, .tuple #[], hexec _ ?_, .tuple .nil, ?_⟩
            · simp only [Builtin.delete_, hty, Sem.run_bind, run_under hd, Result.andThen_ok, List.getElem?_toArray, List.getElem?_cons_zero, List.getElem?_cons_succ, getObj_map k1, hch, findKey_ok (P := P) hkd f1 w]
              rw [show (Obj.map (es'.eraseIdxIfInBounds i1) cl) = o2 from rfl, setObj_map o2 k1]; rfl
            · refine ext_upd h1 hb rfl hg ?_ s2 s3 hwf
              rw [s1]
              exact ⟨_, rfl, by rw [Array.toList_eraseIdxIfInBounds]; exact k2.erase i1⟩
        · rename_i hf
          simp at he; subst he
          obtain ⟨r', f1, f2⟩ := findNow_rel hkv k2 hf
          cases f2 with
          | none =>
            let o2 : Obj := .map es' cl
            obtain ⟨s1, s2, s3⟩ := heap_set (o := o2) k1
            have hsame : ({ w with heap := w.heap.setIfInBounds i.b o2 } : World).heap = w.heap := by
              apply Array.ext
              · exact s3.1
              · intro j h1 h2
                have h3 := s2 j
                by_cases e : j = i.b
                · subst e
                  have := s1.trans k1.symm
                  rw [Array.getElem?_eq_getElem h1, Array.getElem?_eq_getElem h2] at this
                  simpa using this
                · have := h3 e
                  rw [Array.getElem?_eq_getElem h1, Array.getElem?_eq_getElem h2] at this
                  simpa using this
            refine ⟨ρ, { w with heap := w.heap.setIfInBounds i.b o2 }, .tuple #[], hexec _ ?_, .tuple .nil, hg.heap hsame, ext_same s3 (fun b _ => by rw [hsame])⟩
            simp only [Builtin.delete_, hty, Sem.run_bind, run_under hd, Result.andThen_ok, List.getElem?_toArray, List.getElem?_cons_zero, List.getElem?_cons_succ, getObj_map k1, hch, findKey_ok (P := P) hkd f1 w]
            rw [show (Obj.map es' cl) = o2 from rfl, setObj_map o2 k1]; rfl
        · simp at he
      · simp at he
    · simp at he
  · simp at he

theorem simCall {o : Oper} {c : Call} {f : Operand} {h : H} {w : World} {r : ANext} (ho : o.op = .call c) (hcal : c.callee = .value f) (he : execE P s h o.op = some r) (ht : TR ρ s a.tmps) :
    SimE P ρ h w a o r := by
  rw [ho] at he; simp only [execE, hcal] at he
  split at he
  · rename_i g first cap vs hf hvs
    simp at he; subst he
    have hfv := ht.ev hf
    have hargs := ht.evs hvs
    generalize e : a.eval f = u at hfv
    cases hfv with
    | atom hh => simp [okAtom] at hh
    | func h1 h2 =>
      rename_i fs cs
      refine ⟨fs ++ c.args.map a.eval ++ cs, by simp [execOp, ho, resolve, hcal, e, Deferred.ofValue, invoke], ?_⟩
      simp only [Array.toList_append, Array.toList_map]
      rw [← List.append_assoc]
      exact (h1.append hargs).append h2
  · simp at he

end
end Go.Proofs.YtdocmpnofklaoaaGreatDoor.Ev

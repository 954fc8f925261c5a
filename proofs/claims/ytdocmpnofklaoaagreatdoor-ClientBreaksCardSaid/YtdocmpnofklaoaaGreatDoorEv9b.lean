/- A range over a map that leaves no choice, over a string. -/
import Derived.Test.YtdocmpnofklaoaaGreatDoorEv9
import Derived.Laws.NewFold
namespace Go.Proofs.YtdocmpnofklaoaaGreatDoor.Ev
open Go
set_option linter.unusedSimpArgs false

section
variable {P : Program} {ρ : Rho} {s : Fr} {a : Act}

def noCells : Obj → Bool
  | .cells _ _ _ => false
  | _ => true

theorem getObj_run {w : World} {r : Nat} {o : Obj} (h : w.heap[r]? = some o) (hc : noCells o = true := by rfl) : (getObj r).run P w = .ok o w := by cases o <;> first | (simp [noCells] at hc; done) | simp [getObj, Sem.run, h]
theorem setObj_run {w : World} {r : Nat} {o o' : Obj} (h : w.heap[r]? = some o) (hc : noCells o = true := by rfl) : (setObj r o').run P w = .ok () { w with heap := w.heap.setIfInBounds r o' } := by cases o <;> first | (simp [noCells] at hc; done) | simp [setObj, Sem.run, h]

theorem MRs.filter {p p' : MapEntry → Bool} (hp : ∀ e e' : MapEntry, e'.born = e.born → p' e' = p e) : ∀ {es es' : List MapEntry}, MRs ρ es es' → MRs ρ (es.filter p) (es'.filter p')
  | _, _, .nil => .nil
  | _, _, .cons (e := e) (e' := e') a b c t => by
    simp only [List.filter_cons, hp e e' c]
    split
    · exact .cons a b c (t.filter hp)
    · exact t.filter hp
theorem MRs.allb {p p' : MapEntry → Bool} (hp : ∀ e e' : MapEntry, e'.born = e.born → p' e' = p e) : ∀ {es es' : List MapEntry}, MRs ρ es es' → es'.all p' = es.all p
  | _, _, .nil => rfl
  | _, _, .cons (e := e) (e' := e') a b c t => by simp only [List.all_cons, hp e e' c, t.allb hp]

theorem any_beq (n : Nat) (l : List Nat) : (l.any (Nat.beq n)) = l.contains n := by
  induction l with
  | nil => rfl
  | cons a l ih =>
    simp only [List.any_cons, List.contains_cons, ih]
    congr 1
    show Nat.beq n a = decide (n = a)
    rw [Bool.eq_iff_iff]; simp

theorem next_run {w : World} {r mr since last clock : Nat} {seen : List Nat} {es : List MapEntry} {es' : Array MapEntry} {q : Option MapEntry} {ty : TypeId} (hr : w.heap[r]? = some (.mapIter (some mr) since seen.toArray last))
    (hm : w.heap[mr]? = some (.map es' clock)) (hs : stepI es since seen last = some q) (hrel : MRs ρ es es'.toList) :
    match q with
    | none => (Instr.next (.pointer (some ⟨r, 0, none⟩)) false ty).run P w = .ok (.tuple #[.bool false]) w
    | some e => ∃ e' : MapEntry, VR ρ e.key e'.key ∧ VR ρ e.val e'.val ∧ e'.born = e.born ∧
        (Instr.next (.pointer (some ⟨r, 0, none⟩)) false ty).run P w = .ok (.tuple #[.bool true, e'.key, e'.val]) { w with heap := w.heap.setIfInBounds r (.mapIter (some mr) since (seen.toArray.push e'.born) clock) } := by
  unfold stepI at hs
  obtain ⟨hc, hs⟩ := opt_false hs
  have hcond : (!seen.toArray.isEmpty && !es'.isEmpty && es'.all (fun e => decide (e.born ≥ last))) = false := by
    have e1 : seen.toArray.isEmpty = seen.isEmpty := by simp
    have e2 : es'.isEmpty = es.isEmpty := by
      have hl := hrel.length
      rw [Array.length_toList] at hl
      cases es with
      | nil => simp at hl; simp [hl]
      | cons b t => simp only [List.length_cons] at hl; simp [Array.isEmpty, hl]
    have e3 : es'.all (fun e => decide (e.born ≥ last)) = es.all fun e => Nat.ble last e.born := by
      rw [← Array.all_toList]
      exact hrel.allb (fun e e' hb => by rw [hb, Bool.eq_iff_iff]; simp)
    rw [e1, e2, e3]
    revert hc
    cases seen.isEmpty <;> cases es.isEmpty <;> cases (es.all fun e => Nat.ble last e.born) <;> simp
  have hleft : MRs ρ (es.filter (fun e => !seen.any (Nat.beq e.born))) (es'.filter fun e => !seen.toArray.contains e.born).toList := by
    rw [Array.toList_filter]
    exact hrel.filter (fun e e' hb => by rw [any_beq, hb]; simp)
  have run : ∀ (left : Array MapEntry), es'.filter (fun e => !seen.toArray.contains e.born) = left → (Instr.next (.pointer (some ⟨r, 0, none⟩)) false ty).run P w =
      Sem.run P (do
        let old := left.filter (·.born < since)
        let new := left.filter (·.born ≥ since)
        let candidates := (if old.isEmpty then #[none] else #[]) ++ (old ++ new).map some
        match candidates[← choose (.mapNext candidates.size)]? with
        | some (some e) =>
          setObj r (.mapIter (some mr) since (seen.toArray.push e.born) clock)
          pure (.tuple #[.bool true, e.key, e.val])
        | some none => pure (.tuple #[.bool false])
        | none => stuck "Next: no such candidate") w := by
    intro left hl
    subst hl
    unfold Instr.next
    simp only [Sem.run_bind, getObj_run hr, getObj_run hm, Result.andThen_ok, hcond, Bool.false_eq_true, if_false]
    rfl
  split at hs
  · rename_i hnil
    simp only [Option.some.injEq] at hs; subst hs
    rw [hnil] at hleft
    have : es'.filter (fun e => !seen.toArray.contains e.born) = #[] := by
      apply Array.ext'; generalize (es'.filter (fun e => !seen.toArray.contains e.born)).toList = l at hleft; cases hleft; rfl
    rw [run _ this]
    simp [Sem.run_bind, Question.forced]
  · rename_i e hone
    obtain ⟨hb, hs⟩ := opt_false hs
    simp only [Option.some.injEq] at hs; subst hs
    rw [hone] at hleft
    obtain ⟨e', he', hk, hv, hbn⟩ : ∃ e' : MapEntry, es'.filter (fun e => !seen.toArray.contains e.born) = #[e'] ∧ VR ρ e.key e'.key ∧ VR ρ e.val e'.val ∧ e'.born = e.born := by
      generalize hl : (es'.filter (fun e => !seen.toArray.contains e.born)).toList = l at hleft
      cases hleft with
      | cons k1 k2 k3 t =>
        cases t
        exact ⟨_, by apply Array.ext'; rw [hl], k1, k2, k3⟩
    refine ⟨e', hk, hv, hbn, ?_⟩
    rw [run _ he']
    have h1 : e'.born < since := by rw [hbn]; rwa [Nat.blt_eq] at hb
    have f1 : List.filter (fun x => decide (x.born < since)) [e'] = [e'] := by simp [h1]
    have f2 : List.filter (fun x : MapEntry => decide (since ≤ x.born)) [e'] = [] := by simp; omega
    have f3 : ¬ since ≤ e'.born := by omega
    simp [f1, f2, f3, Sem.run_bind, Question.forced, setObj_run hr]
  · simp at hs

theorem simRange {o : Oper} {t : TypeId} {x : Operand} {h : H} {w : World} {r : ANext} (ho : o.op = .range t x) (he : execE P s h o.op = some r) (ht : TR ρ s a.tmps) (hg : HR ρ h.obj w)
    (hn : ∀ h', ((∃ v, r = .val v h') ∨ r = .skip h') → h.next < h'.next → ρ h.next = none) : SimE P ρ h w a o r := by
  rw [ho] at he; simp only [execE, execE2] at he
  have mk : ∀ (ob : AObj) (it : Obj), r = .val (.pointer (some ⟨h.next, 0, none⟩)) (h.new ob) → (Instr.range t (a.eval x)).run P w = .ok (.pointer (some ⟨w.heap.size, 0, none⟩)) (w.alloc it) →
      (∀ ρ', Sub ρ ρ' → OR ρ' ⟨w.heap.size, 0, 0⟩ ob (some it)) → SimE P ρ h w a o r := by
    intro ob it hr hrun hor
    have hfresh := hn (h.new ob) (.inl ⟨_, hr⟩) (Nat.lt_succ_self _)
    obtain ⟨k1, k2⟩ := ext_new (w' := w.alloc it) (N := 0) hfresh hg ⟨rfl, rfl, rfl⟩ (hor _ (Upd.sub _ hfresh))
    subst hr
    exact ⟨_, w.alloc it, _, by simp [execOp, ho, hrun], .ptr (i := ⟨w.heap.size, 0, 0⟩) (Upd.same _ _ _) rfl, k1, k2⟩
  split at he
  · rename_i b hd hx
    simp at he
    have e := (ht.ev hx).string
    exact mk (.siter b 0) (.stringIter b 0) he.symm (by simp [Instr.range, run_under hd, e]) (fun _ _ => ⟨rfl, rfl⟩)
  · rename_i k e' hd hx
    simp at he
    have e := (ht.ev hx).mapNone
    exact mk (.iter none 0 [] 0) (.mapIter none 0 #[] 0) he.symm (by simp [Instr.range, run_under hd, e]) (fun _ _ => ⟨rfl, none, rfl, rfl⟩)
  · rename_i k e' m hd hx
    split at he
    · rename_i es cl hb
      simp at he
      have hm := ht.ev hx
      generalize e : a.eval x = u at hm
      cases hm with
      | atom hh => simp [okAtom] at hh
      | map h1 =>
        rename_i i
        obtain ⟨es', k1, k2⟩ := hg.obj _ _ _ h1 hb
        exact mk (.iter (some m) cl [] cl) (.mapIter (some i.b) cl #[] cl) he.symm (by rw [e]; simp [Instr.range, run_under hd, getObj_run k1]) (fun ρ' hs => ⟨rfl, some i.b, rfl, i, hs _ _ h1, rfl⟩)
    · simp at he
  · simp at he

theorem simNext {o : Oper} {x : Operand} {str : Bool} {h : H} {w : World} {r : ANext} (ho : o.op = .next x str) (he : execE P s h o.op = some r) (ht : TR ρ s a.tmps) (hg : HR ρ h.obj w) (hwf : WFH h) :
    SimE P ρ h w a o r := by
  rw [ho] at he; simp only [execE, execE2] at he
  split at he
  · rename_i b hx
    have hoff : b.off = 0 := Nat.eq_of_beq_eq_true (opt_false he).1
    replace he := (opt_false he).2
    have hp := ht.ev hx
    generalize e : a.eval x = u at hp
    cases hp with
    | atom hh => simp [okAtom] at hh
    | ptr h1 h2 =>
      rename_i i
      split at he
      · rename_i bs pos hb
        obtain ⟨hb0, hbo⟩ := hg.obj _ _ _ h1 hb
        have e' : a.eval x = .pointer (some ⟨i.b, 0, none⟩) := by rw [e, hb0, hoff]
        have hor : (Nat.blt pos bs.size = true ∧ r = .val (.tuple #[.bool true, goInt pos, .int .i32 (Utf8.decode bs pos).1]) (h.upd b.block (.siter bs (pos + (Utf8.decode bs pos).2)))) ∨ (Nat.blt pos bs.size = false ∧ r = .val (.tuple #[.bool false]) h) := by
          cases hc : Nat.blt pos bs.size <;> rw [hc] at he <;> simp at he
          · exact .inr ⟨rfl, he.symm⟩
          · exact .inl ⟨rfl, he.symm⟩
        rcases hor with ⟨hlt, he⟩ | ⟨hlt, he⟩ <;> subst he
        · have hlt : pos < bs.size := by rwa [Nat.blt_eq] at hlt
          obtain ⟨s1, s2, s3⟩ := heap_set (o := .stringIter bs (pos + (Utf8.decode bs pos).2)) hbo
          obtain ⟨j1, j2⟩ := ext_upd (o' := .siter bs (pos + (Utf8.decode bs pos).2)) h1 hb rfl hg (by rw [s1]; exact ⟨hb0, rfl⟩) s2 s3 hwf
          exact ⟨ρ, _, _, by simp [execOp, ho, e', Instr.next, getObj_run hbo, hlt, setObj_run hbo], .tuple (.cons (.atom rfl) (.cons (.atom rfl) (.cons (.atom rfl) .nil))), j1, j2⟩
        · have hlt : ¬ pos < bs.size := by intro hc; rw [← Nat.blt_eq, hlt] at hc; simp at hc
          exact ⟨ρ, w, _, by simp [execOp, ho, e', Instr.next, getObj_run hbo, hlt], .tuple (.cons (.atom rfl) .nil), hg, Ext.refl _ _ _⟩
      · rename_i since seen last hb
        simp at he; subst he
        obtain ⟨hb0, m', hbo, hm'⟩ := hg.obj _ _ _ h1 hb
        have e' : a.eval x = .pointer (some ⟨i.b, 0, none⟩) := by rw [e, hb0, hoff]
        simp only at hm'; subst hm'
        exact ⟨ρ, w, _, by simp [execOp, ho, e', Instr.next, getObj_run hbo], .tuple (.cons (.atom rfl) .nil), hg, Ext.refl _ _ _⟩
      · rename_i m since seen last hb
        obtain ⟨hb0, m', hbo, j, hj, hm'⟩ := hg.obj _ _ _ h1 hb
        have e' : a.eval x = .pointer (some ⟨i.b, 0, none⟩) := by rw [e, hb0, hoff]
        subst hm'
        split at he
        · rename_i es cl hmap
          obtain ⟨es', k1, k2⟩ := hg.obj _ _ _ hj hmap
          split at he
          · rename_i en hst
            simp at he; subst he
            obtain ⟨en', q1, q2, q3, q4⟩ := next_run (P := P) (ty := o.type) hbo k1 hst k2
            obtain ⟨s1, s2, s3⟩ := heap_set (o := .mapIter (some j.b) since (seen.toArray.push en'.born) cl) hbo
            obtain ⟨j1, j2⟩ := ext_upd (o' := .iter (some m) since (seen ++ [en.born]) cl) h1 hb rfl hg (by rw [s1]; exact ⟨hb0, _, by rw [q3]; simp, j, hj, rfl⟩) s2 s3 hwf
            exact ⟨ρ, _, _, by simp [execOp, ho, e', q4], .tuple (.cons (.atom rfl) (.cons q1 (.cons q2 .nil))), j1, j2⟩
          · rename_i hst
            simp at he; subst he
            have q4 := next_run (P := P) (ty := o.type) hbo k1 hst k2
            exact ⟨ρ, w, _, by simp [execOp, ho, e', q4], .tuple (.cons (.atom rfl) .nil), hg, Ext.refl _ _ _⟩
          · simp at he
        · simp at he
      · simp at he
  · simp at he

end
end Go.Proofs.YtdocmpnofklaoaaGreatDoor.Ev

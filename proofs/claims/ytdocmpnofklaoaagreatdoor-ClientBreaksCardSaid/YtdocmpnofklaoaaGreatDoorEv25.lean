/- Calls: a contract from a function's body; the same contract in a larger heap. -/
import Derived.Test.YtdocmpnofklaoaaGreatDoorEv24
namespace Go.Proofs.YtdocmpnofklaoaaGreatDoor.Ev
open Go
set_option linter.unusedSimpArgs false

structure KX (ρ : Rho) (h : H) (w : World) (ρ' : Rho) (h' : H) (w' : World) : Prop where
  keep : ∀ b, b < w.heap.size → Free ρ h.obj b → w'.heap[b]? = w.heap[b]? ∧ Free ρ' h'.obj b
  keepM : ∀ b, b < w.heap.size → FreeM ρ h.obj b → w'.heap[b]? = w.heap[b]? ∧ FreeM ρ' h'.obj b
  size : w.heap.size ≤ w'.heap.size
  env : Env w w'

theorem KX.putObj {ρ ρ' : Rho} {h h' : H} {w w' : World} {r : Nat} {o : Obj} (x : KX ρ h w ρ' h' w') (hr : w.heap.size ≤ r) : KX ρ h w ρ' h' (w'.putObj r o) :=
  ⟨fun b hb hf => ⟨by rw [World.putObj_heap_other (by omega)]; exact (x.keep b hb hf).1, (x.keep b hb hf).2⟩, fun b hb hf => ⟨by rw [World.putObj_heap_other (by omega)]; exact (x.keepM b hb hf).1, (x.keepM b hb hf).2⟩, by rw [World.putObj_size]; exact x.size, x.env⟩

/-- A value and a heap told anew, under other numbers. -/
structure Told (pin : Nat) (v1 : Value) (h1 : H) (v : Value) (h' : H) : Prop where
  ex : ∃ τ : Nat → Nat, (∀ x, x < pin → τ x = x) ∧ pin ≤ h'.next ∧ RV τ h'.next v v1 ∧
    (∀ a o, h'.obj a = some o → o.live = true → a < h'.next → ∃ o1, h1.obj (τ a) = some o1 ∧ o1.live = true ∧ RO τ h'.next o o1) ∧
    ∀ a a' o o', h'.obj a = some o → h'.obj a' = some o' → o.mut = true → o'.live = true → τ a = τ a' → a = a'

theorem Told.rel {pin : Nat} {v1 v v' : Value} {h1 h' : H} {ρ1 : Rho} {w : World} (t : Told pin v1 h1 v h') (hv : VR ρ1 v1 v') (hg : HR ρ1 h1.obj w) :
    ∃ ρ2, VR ρ2 v v' ∧ HR ρ2 h'.obj w ∧ Dom ρ2 h' ∧ (∀ x, x < pin → ρ2 x = ρ1 x) ∧ (∀ b, Free ρ1 h1.obj b → Free ρ2 h'.obj b) ∧ ∀ b, FreeM ρ1 h1.obj b → FreeM ρ2 h'.obj b := by
  obtain ⟨τ, hτ, hpin, hrv, hob, hinj⟩ := t.ex
  let ρ2 : Rho := fun x => if x < h'.next then ρ1 (τ x) else none
  have he : ∀ x, x < h'.next → ρ2 x = ρ1 (τ x) := fun x hx => if_pos hx
  have hlt : ∀ x i, ρ2 x = some i → x < h'.next ∧ ρ1 (τ x) = some i := by
    intro x i hx
    by_cases hc : x < h'.next
    · exact ⟨hc, by rw [← he x hc]; exact hx⟩
    · simp only [ρ2, if_neg hc] at hx; cases hx
  refine ⟨ρ2, hrv.pull he hv, ⟨fun x i o hx ho => ?_, fun x x' i i' o o' hx hx' ho ho' hl hl' hb => ?_, fun x i hx => hg.lt _ _ (hlt x i hx).2⟩, fun x hx => if_neg (by omega), fun x hx => by rw [he x (by omega), hτ x hx], fun b hf x i o hx ho hl e => ?_, fun b hf x i o hx ho hl e => ?_⟩
  · obtain ⟨h2, h3⟩ := hlt x i hx
    cases hl : o.live with
    | false => cases o <;> simp [AObj.live] at hl; trivial
    | true =>
      obtain ⟨o1, q1, _, q3⟩ := hob x o ho hl h2
      exact q3.pull he (hg.obj _ _ _ h3 q1)
  · obtain ⟨h2, h3⟩ := hlt x i hx
    obtain ⟨h2', h3'⟩ := hlt x' i' hx'
    obtain ⟨o1, q1, _, q2⟩ := hob x o ho (AObj.mut_live hl) h2
    obtain ⟨o1', q1', q2', _⟩ := hob x' o' ho' hl' h2'
    exact hinj x x' o o' ho ho' hl hl' (hg.inj _ _ _ _ _ _ h3 h3' q1 q1' (q2.mut hl) q2' hb)
  · obtain ⟨h2, h3⟩ := hlt x i hx
    obtain ⟨o1, q1, q2, _⟩ := hob x o ho hl h2
    exact hf _ _ _ h3 q1 q2 e
  · obtain ⟨h2, h3⟩ := hlt x i hx
    obtain ⟨o1, q1, _, q2⟩ := hob x o ho (AObj.mut_live hl) h2
    exact hf _ _ _ h3 q1 (q2.mut hl) e

section
variable {P : Program}

/-- A call's answer, in a heap of its own. -/
def SemD (P : Program) (f : FuncId) (args : List Value) (h : H) (v : Value) (h' : H) : Prop :=
  ∀ (ρ : Rho) (args' : Array Value) (w : World), VRs ρ args args'.toList → HR ρ h.obj w → WFH h → Dom ρ h →
    (∀ w0, (callFunc f args').run P w0 = .ok (.enter f args') w0) ∧
    CallsIn FW 0 P f args' w fun e w' => ∃ ρ' v', e = .returned v' ∧ VR ρ' v v' ∧ HR ρ' h'.obj w' ∧ Dom ρ' h' ∧ (∀ x, x < h.next → ρ' x = ρ x) ∧ KX ρ h w ρ' h' w'

theorem SemD.of_callOk {f : FuncId} {args : List Value} {h h' : H} {v : Value} (c : CallOk P f args h v h') : SemD P f args h v h' := by
  intro ρ args' w h1 h2 h3 hd
  obtain ⟨k1, k2⟩ := c.1 ρ args' w h1 h2 h3 (fun x x1 _ => hd x x1)
  refine ⟨k1, k2.mono ?_⟩
  rintro e w' ⟨ρ', v', rfl, q1, q2, q3⟩
  refine ⟨ρ', v', rfl, q1, q2, hd.of_ext q3, fun z hz => ?_, q3.keep, q3.keepM, q3.size, q3.env⟩
  cases e : ρ z with
  | some i => exact q3.sub z i e
  | none =>
    cases e' : ρ' z with
    | none => rfl
    | some i => have := (q3.dom z e (by rw [e']; rfl)).1; omega

theorem leaves_marks {fn : Func} {tm : Array Value} {ρ : Rho} {h : H} {w : World} {ρ1 : Rho} {h1 : H} {R : Ending → World → Prop} (hres : ∀ w2, HR ρ1 h1.obj w2 → KX ρ h w ρ1 h1 w2 → ∃ v', (results fn tm).run P w2 = .ok v' w2 ∧ R (.returned v') w2) :
    ∀ (df : List (Option (FuncId × List Value))) {ds : List Deferred} {w1 : World}, DR ρ1 df ds → (∀ d ∈ df, d = none) → HR ρ1 h1.obj w1 → KX ρ h w ρ1 h1 w1 → Marks ρ1 h1 w1 w.heap.size (marksOf ds) →
      LeavesInM FW 0 P fn tm R ds .returning w1
  | [], ds, w1, hdr, _, hp, hk, _ => by
    cases hdr
    obtain ⟨v', q1, q2⟩ := hres w1 hp hk
    exact ⟨v', q1, q2⟩
  | d :: df, ds, w1, hdr, hn, hp, hk, hm => by
    cases hdr with
    | cons hd1 t =>
      cases hd1 with
      | mark r =>
        have hmk : ∀ l, marksOf (mark r :: l) = r :: marksOf l := fun l => rfl
        rw [hmk] at hm
        have hnd := List.nodup_cons.1 hm.nodup
        refine ⟨by simp, .inl ⟨r, _, rfl, run_takeDeferred (hm.at_ r (by simp)), ?_⟩⟩
        refine leaves_marks hres df t (fun d hd => hn d (List.mem_cons_of_mem _ hd)) (hp.putObj (hm.free r (by simp))) (hk.putObj (hm.lo r (by simp))) ?_
        exact Marks.putObj ⟨hnd.2, fun k hk => hm.lo k (by simp [hk]), fun k hk => hm.hi k (by simp [hk]), fun k hk => hm.at_ k (by simp [hk]), fun k hk => hm.free k (by simp [hk])⟩ hnd.1
      | call hargs => have := hn _ List.mem_cons_self; cases this

/-- A contract from a function's body. -/
theorem SemD.of_wp {f : FuncId} {fn : Func} {body : Code} {args : List Value} {h h' : H} {v : Value} (hf : P.funcs[f]? = some fn) (hb : fn.body = some body) (hle : args.length ≤ fn.ntmps)
    (hne : ¬ fn.name = "runtime.NumGoroutine") (hw : ∀ w0, Wp P (noW w0) h.next body ⟨T.ofListFrom .nil 0 args, fn.ntmps, []⟩ h fun ex s1 h1 => (∀ id, ex ≠ .exit id) ∧ (∀ d ∈ s1.df, d = none) ∧
      ∃ vs, resultsA P s1 h1.obj fn.results.toList = some vs ∧ Told h.next (tupleA vs) h1 v h') : SemD P f args h v h' := by
  intro ρ args' w hargs hg hwf hd
  refine ⟨fun w0 => by simp [callFunc, hf, hne, hb], ?_⟩
  refine callsIn_of_wp_marks hf hb trivial (wpIn_mono (hw w ρ _ w ⟨frame_enter hargs hle, hg, hwf, .nil⟩ hd (Nat.le_refl _) .none) ?_)
  rintro e a' w' ⟨ρ1, x, s1, h1, rfl, ⟨hex, hdf, vs, hres, ht⟩, hat, hd1, _, hx⟩
  obtain ⟨ds, hds, hm⟩ := hx.marks
  simp only [List.append_nil] at hds
  rw [← hds] at hm
  have hpost : LeavesInM FW 0 P fn a'.tmps (fun e w' => ∃ ρ' v', e = .returned v' ∧ VR ρ' v v' ∧ HR ρ' h'.obj w' ∧ Dom ρ' h' ∧ (∀ x, x < h.next → ρ' x = ρ x) ∧ KX ρ h w ρ' h' w') a'.defers .returning w' := by
    refine leaves_marks (ρ := ρ) (h := h) (w := w) (fun w2 hp2 hk2 => ?_) _ hat.df hdf hat.hp ⟨fun b => hx.keep b (Nat.zero_le _), hx.keepM, hx.size, hx.env⟩ hm
    obtain ⟨v2, k1, k2⟩ := results_ok (a := a') (P := P) hat.tm hp2 hres
    obtain ⟨ρ2, q1, q2, q3, q4, q5, q6⟩ := ht.rel k1 hp2
    exact ⟨v2, k2, ρ2, v2, rfl, q1, q2, q3, fun z hz => (q4 z hz).trans (hx.pins z hz), fun b hb hf => ⟨(hk2.keep b hb hf).1, q5 b (hk2.keep b hb hf).2⟩, fun b hb hf => ⟨(hk2.keepM b hb hf).1, q6 b (hk2.keepM b hb hf).2⟩, hk2.size, hk2.env⟩
  cases x with
  | normal => exact hpost
  | ret => exact hpost
  | exit id => exact absurd rfl (hex id)

/-- A contract in a heap of its own holds in a larger heap. -/
theorem CallOk.of_semD {f : FuncId} {args0 args : List Value} {h0 h1 h h' : H} {v0 v : Value} (hc : SemD P f args0 h0 v0 h1) (σ : Nat → Nat) (hwf0 : WFH h0) (hn01 : h0.next ≤ h1.next)
    (hσ : ∀ x, x < h0.next → σ x < h.next) (hargs : RVs σ h0.next args0 args)
    (hob : ∀ a o, h0.obj a = some o → o.live = true → ∃ o1, h.obj (σ a) = some o1 ∧ o1.live = true ∧ RO σ h0.next o o1)
    (hinj : ∀ a a' o o', h0.obj a = some o → h0.obj a' = some o' → o.mut = true → o'.live = true → σ a = σ a' → a = a')
    (hnx : h'.next = h.next + (h1.next - h0.next))
    (hv : RV (fun x => if x < h0.next then σ x else h.next + (x - h0.next)) h1.next v0 v)
    (hA : AExt h h')
    (hob' : ∀ y o, h'.obj y = some o → o.live = true → (h.obj y = some o ∧ ∀ x o0, h0.obj x = some o0 → o0.live = true → σ x ≠ y) ∨
      ∃ x o1, x < h1.next ∧ y = (if x < h0.next then σ x else h.next + (x - h0.next)) ∧ h1.obj x = some o1 ∧ o1.live = true ∧ RO' (fun x => if x < h0.next then σ x else h.next + (x - h0.next)) h1.next o1 o)
    (habs : ∀ (ρ : Rho) (args' : Array Value) (w : World), VRs ρ args args'.toList → HR ρ h.obj w → ∀ a, a < h.next → ρ a = none → h'.objs.get a = h.objs.get a) : CallOk P f args h v h' := by
  refine ⟨fun ρ args' w h1' h2 h3 hdom => ?_, hA⟩
  let ρ0 : Rho := fun x => if x < h0.next then ρ (σ x) else none
  have he0 : ∀ x, x < h0.next → ρ0 x = ρ (σ x) := fun x hx => if_pos hx
  have hlt0 : ∀ x i, ρ0 x = some i → x < h0.next ∧ ρ (σ x) = some i := by
    intro x i hx
    by_cases hcx : x < h0.next
    · exact ⟨hcx, by rw [← he0 x hcx]; exact hx⟩
    · simp only [ρ0, if_neg hcx] at hx; cases hx
  have hg0 : HR ρ0 h0.obj w := by
    refine ⟨fun x i o hx ho => ?_, fun x x' i i' o o' hx hx' ho ho' hl hl' hb => ?_, fun x i hx => h2.lt _ _ (hlt0 x i hx).2⟩
    · obtain ⟨_, h5⟩ := hlt0 x i hx
      cases hl : o.live with
      | false => cases o <;> simp [AObj.live] at hl; trivial
      | true =>
        obtain ⟨o1, q1, _, q3⟩ := hob x o ho hl
        exact q3.pull he0 (h2.obj _ _ _ h5 q1)
    · obtain ⟨_, h5⟩ := hlt0 x i hx
      obtain ⟨_, h5'⟩ := hlt0 x' i' hx'
      obtain ⟨o1, q1, _, q2⟩ := hob x o ho (AObj.mut_live hl)
      obtain ⟨o1', q1', q2', _⟩ := hob x' o' ho' hl'
      exact hinj x x' o o' ho ho' hl hl' (h2.inj _ _ _ _ _ _ h5 h5' q1 q1' (q2.mut hl) q2' hb)
  have hfreeM0 : ∀ b, FreeM ρ h.obj b → FreeM ρ0 h0.obj b := fun b hf x i o hx ho hl e => by
    obtain ⟨_, h5⟩ := hlt0 x i hx
    obtain ⟨o1, q1, _, q2⟩ := hob x o ho (AObj.mut_live hl)
    exact hf _ _ _ h5 q1 (q2.mut hl) e
  have hfree0 : ∀ b, Free ρ h.obj b → Free ρ0 h0.obj b := fun b hf x i o hx ho hl e => by
    obtain ⟨_, h5⟩ := hlt0 x i hx
    obtain ⟨o1, q1, q2, _⟩ := hob x o ho hl
    exact hf _ _ _ h5 q1 q2 e
  obtain ⟨k1, k2⟩ := hc ρ0 args' w (hargs.pull he0 h1') hg0 hwf0 (fun x hx => if_neg (by omega))
  refine ⟨k1, k2.mono ?_⟩
  rintro e w' ⟨ρ1, v', rfl, q1, q2, q3, q4, q5⟩
  let ρ' : Rho := fun y => if y < h.next then ρ y else if y < h'.next then ρ1 (h0.next + (y - h.next)) else ρ y
  let τ : Nat → Nat := fun x => if x < h0.next then σ x else h.next + (x - h0.next)
  have hsub : Sub ρ ρ' := by
    intro y i hy
    simp only [ρ']
    by_cases c1 : y < h.next
    · rw [if_pos c1]; exact hy
    · rw [if_neg c1]
      by_cases c2 : y < h'.next
      · rw [hdom y (by omega) c2] at hy; cases hy
      · rw [if_neg c2]; exact hy
  have hτ : ∀ x, x < h1.next → ρ1 x = ρ' (τ x) := by
    intro x hx
    simp only [ρ', τ]
    by_cases c1 : x < h0.next
    · rw [if_pos c1, if_pos (hσ x c1), q4 x c1, he0 x c1]
    · rw [if_neg c1, if_neg (by omega), if_pos (by omega)]
      congr 1; omega
  have hvv : VR ρ' v v' := hv.push (σ := τ) hτ q1
  -- where an object of the new heap stands
  have hcase : ∀ y i o, ρ' y = some i → h'.obj y = some o → o.live = true →
      (ρ y = some i ∧ h.obj y = some o ∧ i.b < w.heap.size ∧ FreeM ρ0 h0.obj i.b ∧ (o.mut = true → Free ρ0 h0.obj i.b)) ∨ ∃ x o1, x < h1.next ∧ y = τ x ∧ ρ1 x = some i ∧ h1.obj x = some o1 ∧ o1.live = true ∧ RO' τ h1.next o1 o := by
    intro y i o hy ho hl
    rcases hob' y o ho hl with ⟨p1, p2⟩ | ⟨x, o1, p1, p2, p3, p4, p5⟩
    · left
      have hyn : y < h.next := h3.obj_lt p1
      have hry : ρ y = some i := by simpa only [ρ', if_pos hyn] using hy
      refine ⟨hry, p1, h2.lt _ _ hry, fun x i' o0 hx ho0 hl0 e => ?_, fun hm x i' o0 hx ho0 hl0 e => ?_⟩
      · obtain ⟨_, h5⟩ := hlt0 x i' hx
        obtain ⟨o1, r1, _, r2⟩ := hob x o0 ho0 (AObj.mut_live hl0)
        exact p2 x o0 ho0 (AObj.mut_live hl0) (h2.inj _ _ _ _ _ _ h5 hry r1 p1 (r2.mut hl0) hl e)
      · obtain ⟨_, h5⟩ := hlt0 x i' hx
        obtain ⟨o1, r1, r2, _⟩ := hob x o0 ho0 hl0
        exact p2 x o0 ho0 hl0 (h2.inj _ _ _ _ _ _ hry h5 p1 r1 hm r2 e.symm).symm
    · right
      exact ⟨x, o1, p1, p2, by rw [hτ x p1]; rw [p2] at hy; exact hy, p3, p4, p5⟩
  have hfree' : ∀ b, b < w.heap.size → Free ρ0 h0.obj b → Free ρ1 h1.obj b := fun b hb hf => (q5.keep b hb hf).2
  have hp' : HR ρ' h'.obj w' := by
    refine ⟨fun y i o hy ho => ?_, fun y y' i i' o o' hy hy' ho ho' hl hl' hb => ?_, fun y i hy => ?_⟩
    · cases hl : o.live with
      | false => cases o <;> simp [AObj.live] at hl; trivial
      | true =>
        rcases hcase y i o hy ho hl with ⟨p1, p2, p3, p4, _⟩ | ⟨x, o1, p1, p2, p3, p4, p5, p6⟩
        · rw [(q5.keepM _ p3 p4).1]
          exact (h2.obj _ _ _ p1 p2).mono hsub
        · exact p6.push (σ := τ) hτ (q2.obj _ _ _ p3 p4)
    · rcases hcase y i o hy ho (AObj.mut_live hl) with ⟨p1, p2, p3, p4, p5⟩ | ⟨x, o1, p1, p2, p3, p4, p5, p6⟩
      · rcases hcase y' i' o' hy' ho' hl' with ⟨r1, r2, r3, r4, _⟩ | ⟨x', o1', r1, r2, r3, r4, r5, r6⟩
        · exact h2.inj _ _ _ _ _ _ p1 r1 p2 r2 hl hl' hb
        · exact absurd hb.symm (hfree' _ p3 (p5 hl) x' i' o1' r3 r4 r5)
      · rcases hcase y' i' o' hy' ho' hl' with ⟨r1, r2, r3, r4, _⟩ | ⟨x', o1', r1, r2, r3, r4, r5, r6⟩
        · exact absurd hb ((q5.keepM _ r3 r4).2 x i o1 p3 p4 (p6.mut hl))
        · rw [p2, r2, q2.inj _ _ _ _ _ _ p3 r3 p4 r4 (p6.mut hl) r5 hb]
    · simp only [ρ'] at hy
      by_cases c1 : y < h.next
      · rw [if_pos c1] at hy; exact Nat.lt_of_lt_of_le (h2.lt _ _ hy) q5.size
      · rw [if_neg c1] at hy
        by_cases c2 : y < h'.next
        · rw [if_pos c2] at hy; exact q2.lt _ _ hy
        · rw [if_neg c2] at hy; exact Nat.lt_of_lt_of_le (h2.lt _ _ hy) q5.size
  refine ⟨ρ', v', rfl, hvv, hp', hsub, fun y hy1 hy2 => ?_, fun b hb hf => ⟨(q5.keep b hb (hfree0 b hf)).1, fun y i o hy ho hl e => ?_⟩, fun b hb hf => ⟨(q5.keepM b hb (hfreeM0 b hf)).1, fun y i o hy ho hl e => ?_⟩, q5.size, hA.next, hA.clk, habs ρ args' w h1' h2, hA.vers, hA.wf, q5.env⟩
  · simp only [ρ'] at hy2
    by_cases c1 : y < h.next
    · rw [if_pos c1, hy1] at hy2; cases hy2
    · rw [if_neg c1] at hy2
      by_cases c2 : y < h'.next
      · exact ⟨by omega, c2⟩
      · rw [if_neg c2, hy1] at hy2; cases hy2
  · rcases hcase y i o hy ho hl with ⟨p1, p2, _, _, _⟩ | ⟨x, o1, _, _, p3, p4, p5, _⟩
    · exact hf y i o p1 p2 hl e
    · exact hfree' b hb (hfree0 b hf) x i o1 p3 p4 p5 e
  · rcases hcase y i o hy ho (AObj.mut_live hl) with ⟨p1, p2, _, _, _⟩ | ⟨x, o1, _, _, p3, p4, _, p6⟩
    · exact hf y i o p1 p2 hl e
    · exact (q5.keepM b hb (hfreeM0 b hf)).2 x i o1 p3 p4 (p6.mut hl) e

end
end Go.Proofs.YtdocmpnofklaoaaGreatDoor.Ev

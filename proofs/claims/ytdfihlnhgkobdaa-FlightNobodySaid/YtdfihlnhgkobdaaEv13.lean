/- The evaluator is right: operations, calls. -/
import Derived.Test.YtdfihlnhgkobdaaEv12
import Derived.RangeFuncRecord
namespace Go.Proofs.Ytdfihlnhgkobdaa.Ev
open Go
set_option linter.unusedSimpArgs false

def exOf : AEx → Exit
  | .normal => .normal
  | .exit id => .exit id
  | .ret => .ret

abbrev FW : Fence := Fence.wide

/-- What a state that the evaluator has reached stands for. -/
structure At (ρ : Rho) (s : Fr) (h : H) (a : Act) (w : World) : Prop where
  tm : TR ρ s a.tmps
  hp : HR ρ h.obj w
  wf : WFH h

/-- The mark that a range over a function leaves. -/
def mark (r : Nat) : Deferred := { target := .collected r, args := #[] }

structure Marks (ρ : Rho) (h : H) (w : World) (B : Nat) (rs : List Nat) : Prop where
  nodup : rs.Nodup
  lo : ∀ r ∈ rs, B ≤ r
  hi : ∀ r ∈ rs, r < w.heap.size
  at_ : ∀ r ∈ rs, w.heap[r]? = some (.deferred (some []))
  free : ∀ r ∈ rs, Free ρ h.obj r

/-- What has become of a state between two moments of one activation. -/
structure XA (ρ : Rho) (h : H) (a : Act) (w : World) (ρ' : Rho) (h' : H) (a' : Act) (w' : World) : Prop extends Ext ρ h w ρ' h' w' where
  marks : ∃ rs, a'.defers = rs.map mark ++ a.defers ∧ Marks ρ' h' w' w.heap.size rs

theorem Marks.nil {ρ : Rho} {h : H} {w : World} {B : Nat} : Marks ρ h w B [] := ⟨List.nodup_nil, fun _ h => by simp at h, fun _ h => by simp at h, fun _ h => by simp at h, fun _ h => by simp at h⟩
theorem XA.same {ρ ρ' : Rho} {h h' : H} {a a' : Act} {w w' : World} (x : Ext ρ h w ρ' h' w') (e : a'.defers = a.defers) : XA ρ h a w ρ' h' a' w' := ⟨x, [], by simpa using e, .nil⟩
theorem XA.refl (ρ : Rho) (h : H) (a : Act) (w : World) : XA ρ h a w ρ h a w := .same (Ext.refl ρ h w) rfl
theorem Marks.ext {ρ ρ' : Rho} {h h' : H} {w w' : World} {B : Nat} {rs : List Nat} (m : Marks ρ h w B rs) (x : Ext ρ h w ρ' h' w') : Marks ρ' h' w' B rs :=
  ⟨m.nodup, m.lo, fun r hr => Nat.lt_of_lt_of_le (m.hi r hr) x.size, fun r hr => (x.keep r (m.hi r hr) (m.free r hr)).1.trans (m.at_ r hr), fun r hr => (x.keep r (m.hi r hr) (m.free r hr)).2⟩
theorem XA.trans {ρ ρ1 ρ2 : Rho} {h h1 h2 : H} {a a1 a2 : Act} {w w1 w2 : World} (x : XA ρ h a w ρ1 h1 a1 w1) (y : XA ρ1 h1 a1 w1 ρ2 h2 a2 w2) : XA ρ h a w ρ2 h2 a2 w2 := by
  obtain ⟨rs, e1, m1⟩ := x.marks
  obtain ⟨rs', e2, m2⟩ := y.marks
  have m1' := m1.ext y.toExt
  refine ⟨x.toExt.trans y.toExt, rs' ++ rs, by rw [e2, e1]; simp, List.nodup_append.2 ⟨m2.nodup, m1'.nodup, fun p hp q hq e => ?_⟩, fun r hr => ?_, fun r hr => ?_, fun r hr => ?_, fun r hr => ?_⟩
  · subst e; have k1 := m2.lo p hp; have k2 := m1.hi p hq; omega
  all_goals rcases List.mem_append.1 hr with hr | hr
  · exact Nat.le_trans x.size (m2.lo r hr)
  · exact m1'.lo r hr
  · exact m2.hi r hr
  · exact m1'.hi r hr
  · exact m2.at_ r hr
  · exact m1'.at_ r hr
  · exact m2.free r hr
  · exact m1'.free r hr

/-- A free block that was not there at the start may turn. -/
theorem HR.putObj {ρ : Rho} {g : Nat → Option AObj} {w : World} {r : Nat} {o : Obj} (hg : HR ρ g w) (hf : Free ρ g r) : HR ρ g (w.putObj r o) :=
  ⟨fun a i ob h1 h2 => by
    cases hl : ob.live with
    | false => cases ob <;> simp [AObj.live] at hl; trivial
    | true => rw [World.putObj_heap_other (fun e => hf a i ob h1 h2 hl e)]; exact hg.obj a i ob h1 h2, hg.inj, fun a i h1 => by rw [World.putObj_size]; exact hg.lt a i h1⟩
theorem Ext.putObj {ρ ρ' : Rho} {h h' : H} {w w' : World} {r : Nat} {o : Obj} (x : Ext ρ h w ρ' h' w') (hr : w.heap.size ≤ r) : Ext ρ h w ρ' h' (w'.putObj r o) :=
  ⟨x.sub, x.dom, fun b hb hf => ⟨by rw [World.putObj_heap_other (by omega)]; exact (x.keep b hb hf).1, (x.keep b hb hf).2⟩, by rw [World.putObj_size]; exact x.size, x.next, x.clk, x.absf, x.vers, x.wf, x.env⟩
theorem Marks.putObj {ρ : Rho} {h : H} {w : World} {B : Nat} {rs : List Nat} {r : Nat} {o : Obj} (m : Marks ρ h w B rs) (hr : r ∉ rs) : Marks ρ h (w.putObj r o) B rs :=
  ⟨m.nodup, m.lo, fun k hk => by rw [World.putObj_size]; exact m.hi k hk, fun k hk => by
    have hne : k ≠ r := fun e => by subst e; exact hr hk
    rw [World.putObj_heap_other hne]; exact m.at_ k hk, m.free⟩

structure Sound (P : Program) (ih : Ih) : Prop where
  code : ∀ c s h ex s' h', ih c s h = .ok (ex, s', h') → ∀ (ρ : Rho) (a : Act) (w : World), At ρ s h a w → (∀ x, h.next ≤ x → x < h'.next → ρ x = none) →
    ∀ Q : Exit → Act → World → Prop, (∀ ρ' a' w', At ρ' s' h' a' w' → XA ρ h a w ρ' h' a' w' → Q (exOf ex) a' w') → c.wpIn FW 0 P Q a w
  loop : ∀ c s h ex s' h', ih (.loop c) s h = .ok (ex, s', h') → ∃ m, ∀ (ρ : Rho) (a : Act) (w : World), At ρ s h a w → (∀ x, h.next ≤ x → x < h'.next → ρ x = none) →
    ∀ Q : Exit → Act → World → Prop, (∀ ρ' a' w', At ρ' s' h' a' w' → XA ρ h a w ρ' h' a' w' → Q (exOf ex) a' w') → Code.roundsIn FW 0 P c Q m a w

section
variable {P : Program} {ρ : Rho} {s : Fr} {a : Act} {ih : Ih}

theorem VR.bool' {b : Bool} {v : Value} (h : VR ρ v (.bool b)) : v = .bool b := by cases h; rfl

def yieldedA (all : Array Oper) (s : Fr) (j : Nat) : Option Bool :=
  match (all[j]?).bind (·.dst) with
  | some d => match s.get d with
    | .bool b => some b
    | _ => none
  | none => none

theorem yielded_eq {all : Array Oper} {j : Nat} (ht : TR ρ s a.tmps) : yielded all a.tmps j = yieldedA all s j := by
  unfold yielded yieldedA
  cases hd : (all[j]?).bind (·.dst) with
  | none => simp
  | some d =>
    simp only [Option.bind_some]
    have hv := ht.get d
    rw [Array.getD_eq_getD_getElem?] at hv
    cases ht' : a.tmps[d]? with
    | none =>
      rw [ht'] at hv
      simp only [Option.getD_none] at hv
      generalize s.get d = u at hv
      cases hv with
      | atom h => simp [okAtom, undef] at h
      | tuple _ => simp
    | some u =>
      rw [ht'] at hv
      simp only [Option.getD_some] at hv
      cases hu : s.get d with
      | bool b => rw [hu] at hv; rw [hv.bool]
      | _ =>
        rw [hu] at hv
        cases u with
        | bool b => have := hv.bool'; simp at this
        | _ => simp

theorem wanted_eq {all : Array Oper} {o : Oper} (ht : TR ρ s a.tmps) : Region.wanted o (yielded all a.tmps) = wantedA all s o := by
  unfold Region.wanted wantedA
  cases hg : o.guard with
  | none => rfl
  | some p =>
    obtain ⟨j, want⟩ := p
    dsimp only
    rw [yielded_eq ht]
    unfold yieldedA
    cases hd : (all[j]?).bind (·.dst) with
    | none => simp
    | some d =>
      dsimp only
      cases s.get d <;> simp

def resSem (tm : Array Value) : ResultVar → Sem Value
  | .tmp t => pure (tm.getD t undef)
  | .cell p t => do loadVar t (← asAddr (tm.getD p undef))

theorem results_run {g : Nat → Option AObj} {w : World} (ht : TR ρ s a.tmps) (hg : HR ρ g w) : ∀ {l : List ResultVar} {vs : List Value}, resultsA P s g l = some vs →
    ∃ vs', VRs ρ vs vs' ∧ (l.mapM (resSem a.tmps)).run P w = .ok vs' w
  | [], vs, h => by simp [resultsA] at h; subst h; exact ⟨[], .nil, by simp⟩
  | r :: l, vs, h => by
    simp only [resultsA] at h
    split at h
    · simp at h
    · rename_i v hv
      split at h
      · simp at h
      · rename_i ws hws
        simp at h; subst h
        obtain ⟨ws', h1, h2⟩ := results_run ht hg hws
        have hone : ∃ v', VR ρ v v' ∧ (resSem a.tmps r).run P w = .ok v' w := by
          cases r with
          | tmp t =>
            simp at hv; subst hv
            exact ⟨_, ht.get t, rfl⟩
          | cell p t =>
            dsimp only at hv
            split at hv
            · rename_i b hb
              have hp := ht.get p
              rw [hb] at hp
              generalize e : a.tmps.getD p undef = u at hp
              cases hp with
              | atom hh => simp [okAtom] at hh
              | ptr k1 k2 =>
                obtain ⟨v', q1, q2⟩ := loadT_sim (P := P) hv k1 hg
                exact ⟨_, q1, by simp only [resSem, Sem.run_bind, e, asAddr, Sem.run_pure, Result.andThen_ok, q2]⟩
            · simp at hv
        obtain ⟨v', q1, q2⟩ := hone
        exact ⟨_, .cons q1 h1, by simp only [List.mapM_cons, Sem.run_bind, q2, h2, Result.andThen_ok, Sem.run_pure]⟩

theorem tuple_rel : ∀ {vs vs' : List Value}, VRs ρ vs vs' → VR ρ (tupleA vs) (if h : vs'.toArray.size = 1 then vs'.toArray[0] else .tuple vs'.toArray)
  | _, _, .nil => .tuple .nil
  | _, _, .cons (vs := vs) (vs' := vs') a t => by
    cases t with
    | nil => simpa [tupleA] using a
    | cons b u => simpa [tupleA] using VR.tuple (xs := (_ :: _ :: _).toArray) (by simpa using VRs.cons a (VRs.cons b u))

theorem results_ok {fn : Func} {g : Nat → Option AObj} {w : World} {vs : List Value} (ht : TR ρ s a.tmps) (hg : HR ρ g w) (h : resultsA P s g fn.results.toList = some vs) :
    ∃ v', VR ρ (tupleA vs) v' ∧ (results fn a.tmps).run P w = .ok v' w := by
  obtain ⟨vs', h1, h2⟩ := results_run (P := P) ht hg h
  refine ⟨_, tuple_rel h1, ?_⟩
  have he : results fn a.tmps = (do let vs ← fn.results.mapM (resSem a.tmps); pure (if h : vs.size = 1 then vs[0] else .tuple vs)) := by
    unfold results
    congr 1
  rw [he, Sem.run_bind, Array.mapM_eq_mapM_toList, Sem.run_map, h2]
  rfl

theorem frame_enter {fn : Func} {args : List Value} {args' : Array Value} (h : VRs ρ args args'.toList) (hle : args.length ≤ fn.ntmps) :
    TR ρ ⟨T.ofListFrom .nil 0 args, fn.ntmps⟩ (args' ++ Array.replicate (fn.ntmps - args'.size) undef) := by
  have hl : args'.size = args.length := by have := h.length; simpa using this.symm
  refine ⟨by simp; omega, fun t => ?_⟩
  simp only [Fr.get, T.get_ofListFrom, Nat.zero_add, Nat.sub_zero]
  by_cases ht : t < args.length
  · rw [if_pos ⟨by omega, ht⟩]
    obtain ⟨v', h1, h2⟩ := h.get (List.getElem?_eq_getElem ht)
    rw [List.getElem?_eq_getElem ht]
    have : (args' ++ Array.replicate (fn.ntmps - args'.size) undef).getD t undef = v' := by
      rw [Array.getD_eq_getD_getElem?, Array.getElem?_append_left (by omega)]
      have : args'[t]? = some v' := by simpa using h1
      simp [this]
    rw [this]; exact h2
  · rw [if_neg (by omega)]
    have : (args' ++ Array.replicate (fn.ntmps - args'.size) undef).getD t undef = undef := by
      rw [Array.getD_eq_getD_getElem?, Array.getElem?_append_right (by omega)]
      by_cases h2 : t - args'.size < fn.ntmps - args'.size
      · simp [Array.getElem?_replicate, h2]
      · simp [Array.getElem?_replicate, h2]
    rw [this]; simp only [T.get]; exact VR.undef

theorem leaves_marks {fn : Func} {s' : Fr} {h h' : H} {w : World} {ρ' : Rho} {tm : Array Value} {vs : List Value} (ht : TR ρ' s' tm) (hres : resultsA P s' h'.obj fn.results.toList = some vs) :
    ∀ (rs : List Nat) (w' : World), HR ρ' h'.obj w' → Ext ρ h w ρ' h' w' → Marks ρ' h' w' w.heap.size rs →
      LeavesInM FW 0 P fn tm (fun e w' => ∃ ρ' v', e = .returned v' ∧ VR ρ' (tupleA vs) v' ∧ HR ρ' h'.obj w' ∧ Ext ρ h w ρ' h' w') (rs.map mark) .returning w'
  | [], w', hp, hx, _ => by
    obtain ⟨v', k1, k2⟩ := results_ok (a := { tmps := tm, defers := [] }) (P := P) ht hp hres
    exact ⟨v', k2, ρ', v', rfl, k1, hp, hx⟩
  | r :: rs, w', hp, hx, hm => by
    have hnd := List.nodup_cons.1 hm.nodup
    refine ⟨by simp, .inl ⟨r, _, rfl, run_takeDeferred (hm.at_ r (by simp)), ?_⟩⟩
    refine leaves_marks ht hres rs _ (hp.putObj (hm.free r (by simp))) (hx.putObj (hm.lo r (by simp))) ?_
    exact Marks.putObj ⟨hnd.2, fun k hk => hm.lo k (by simp [hk]), fun k hk => hm.hi k (by simp [hk]), fun k hk => hm.at_ k (by simp [hk]), fun k hk => hm.free k (by simp [hk])⟩ hnd.1

theorem callA_sound (hi : Sound P ih) {f : FuncId} {args : List Value} {args' : Array Value} {h h' : H} {v : Value} {w : World} (he : callA P ih f args h = .ok (v, h')) (hargs : VRs ρ args args'.toList)
    (hg : HR ρ h.obj w) (hwf : WFH h) (hdom : ∀ x, h.next ≤ x → x < h'.next → ρ x = none) :
    (∀ w0, (callFunc f args').run P w0 = .ok (.enter f args') w0) ∧
    CallsIn FW 0 P f args' w fun e w' => ∃ ρ' v', e = .returned v' ∧ VR ρ' v v' ∧ HR ρ' h'.obj w' ∧ Ext ρ h w ρ' h' w' := by
  unfold callA at he
  split at he
  · cases he
  · rename_i fn hf
    split at he
    · cases he
    · rename_i body hb
      have hc := (exc_false he).1
      replace he := (exc_false he).2
      simp only [Bool.and_eq_true, Bool.not_eq_true'] at hc
      have hle := Nat.le_of_ble_eq_true hc.1
      refine ⟨fun w0 => ?_, ?_⟩
      · have hne : ¬ fn.name = "runtime.NumGoroutine" := by simpa using hc.2
        simp [callFunc, hf, hne, hb]
      · split at he
        · cases he
        · cases he
        · rename_i ex s' h2 hex hbody
          split at he
          · rename_i vs hres
            cases he
            refine callsIn_of_wp_marks hf hb trivial ?_
            refine hi.code body _ h ex s' h' hbody ρ _ w ⟨frame_enter hargs hle, hg, hwf⟩ hdom _ (fun ρ' a' w' hat hext => ?_)
            obtain ⟨rs, hds, hm⟩ := hext.marks
            simp only [List.append_nil] at hds
            have hpost := leaves_marks (P := P) (fn := fn) hat.tm hres rs w' hat.hp hext.toExt hm
            rw [← hds] at hpost
            cases ex with
            | normal => exact hpost
            | ret => exact hpost
            | exit id => exact absurd rfl (hex id)
          · cases he

/-- One operation. -/
theorem opV_sound (hi : Sound P ih) {all : Array Oper} {o : Oper} {h h' : H} {v : Value} {w : World} (he : opV P ih all o s h = .ok (v, h')) (hat : At ρ s h a w)
    (hdom : ∀ x, h.next ≤ x → x < h'.next → ρ x = none) {K : Act → World → Prop} {Q : Exit → Act → World → Prop}
    (hK : ∀ ρ' w' v', VR ρ' v v' → HR ρ' h'.obj w' → Ext ρ h w ρ' h' w' → K (a.put o.dst v') w') :
    if Region.wanted o (yielded all a.tmps) then o.wpIn FW 0 P a w K Q else (∀ f, o.about P w a.eval = some f → FW.fn f) ∧ K (a.put o.dst undef) w := by
  rw [wanted_eq hat.tm]
  unfold opV at he
  rcases cond_or he with ⟨hw, he⟩ | ⟨hw, he⟩
  · rw [if_pos hw]
    refine ⟨fun _ _ => trivial, ?_⟩
    show o.uponIn FW 0 P a K Q ((execOp a.eval o).run P w)
    split at he
    · cases he
    · rename_i v1 h1 hex
      cases he
      unfold exec at hex
      split at hex
      · split at hex
        · rename_i u hu
          cases hex
          obtain ⟨v', k1, k2⟩ := simP hu hat.tm
          rw [k2 w]
          exact hK ρ w v' k1 hat.hp (Ext.refl ρ h w)
        · cases hex
      · split at hex
        · rename_i u ob hu
          cases hex
          have hfresh : ρ h.next = none := hdom _ (Nat.le_refl _) (Nat.lt_succ_self _)
          obtain ⟨w', v', o', N, k1, k2, k3, k4⟩ := simA hu hat.tm w hfresh
          rw [k1]
          obtain ⟨q1, q2⟩ := ext_new hfresh hat.hp k2 k4
          exact hK _ w' v' k3 q1 q2
        · cases hex
      · split at hex
        · rename_i u hu
          cases hex
          obtain ⟨w', v', k1, k2, k3, k4, k5⟩ := simR hu hat.tm w hat.hp
          rw [k1]
          exact hK ρ w' v' k2 k4 (ext_same k3 k5)
        · cases hex
      · obtain ⟨ρ', w', v', k1, k2, k3, k4⟩ := simE hex hat.tm hat.hp hat.wf (fun h2 hr hlt => by
          rcases hr with ⟨_, hr⟩ | hr <;> cases hr; exact hdom _ (Nat.le_refl _) hlt)
        rw [k1]
        exact hK ρ' w' v' k2 k3 k4
    · rename_i h1 hex
      cases he
      unfold exec at hex
      split at hex
      · split at hex <;> cases hex
      · split at hex <;> cases hex
      · split at hex <;> cases hex
      · obtain ⟨ρ', w', k1, k3, k4⟩ := simE hex hat.tm hat.hp hat.wf (fun h2 hr hlt => by
          rcases hr with ⟨_, hr⟩ | hr <;> cases hr; exact hdom _ (Nat.le_refl _) hlt)
        rw [k1]
        exact hK ρ' w' undef VR.undef k3 k4
    · rename_i f args hex
      unfold exec at hex
      split at hex
      · split at hex <;> cases hex
      · split at hex <;> cases hex
      · split at hex <;> cases hex
      · obtain ⟨args', k1, k2⟩ := simE hex hat.tm hat.hp hat.wf (fun h2 hr hlt => by
          rcases hr with ⟨_, hr⟩ | hr <;> cases hr)
        obtain ⟨q1, q2⟩ := callA_sound hi he k2 hat.hp hat.wf hdom
        rw [k1, q1 w]
        refine ⟨fun hh => by simp [FW, Fence.wide] at hh, ?_⟩
        refine q2.mono ?_
        rintro e w' ⟨ρ', v', rfl, r1, r2, r3⟩
        exact hK ρ' w' v' r1 r2 r3
  · rw [if_neg (by rw [hw]; simp)]
    cases he
    exact ⟨fun _ _ => trivial, hK ρ w undef VR.undef hat.hp (Ext.refl ρ h w)⟩

end
end Go.Proofs.Ytdfihlnhgkobdaa.Ev

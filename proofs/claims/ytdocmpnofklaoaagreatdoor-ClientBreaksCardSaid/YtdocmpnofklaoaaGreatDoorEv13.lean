/- The evaluator is right: operations, calls. -/
import Derived.Test.YtdocmpnofklaoaaGreatDoorEv12
import Derived.RangeFuncRecord
import Derived.RecoverIn
import Derived.RangeFuncIn
namespace Go.Proofs.YtdocmpnofklaoaaGreatDoor.Ev
open Go
set_option linter.unusedSimpArgs false

def exOf : AEx → Exit
  | .normal => .normal
  | .exit id => .exit id
  | .ret => .ret

abbrev FW : Fence := Fence.wide

/-- The mark that a range over a function leaves. -/
def mark (r : Nat) : Deferred := { target := .collected r, args := #[] }

/-- A deferred call. -/
inductive DE (ρ : Rho) : Option (FuncId × List Value) → Deferred → Prop
  | mark (r : Nat) : DE ρ none (mark r)
  | call {g : FuncId} {vs : List Value} {ar cap : Array Value} (h : VRs ρ vs (ar ++ cap).toList) : DE ρ (some (g, vs)) { target := .fn (.func g) cap, args := ar }
inductive DR (ρ : Rho) : List (Option (FuncId × List Value)) → List Deferred → Prop
  | nil : DR ρ [] []
  | cons {d : Option (FuncId × List Value)} {d' : Deferred} {ds : List (Option (FuncId × List Value))} {ds' : List Deferred} (h : DE ρ d d') (t : DR ρ ds ds') : DR ρ (d :: ds) (d' :: ds')
theorem DE.mono {ρ ρ' : Rho} (hs : Sub ρ ρ') {d : Option (FuncId × List Value)} {d' : Deferred} (h : DE ρ d d') : DE ρ' d d' := by
  cases h with
  | mark r => exact .mark r
  | call h => exact .call (h.mono hs)
theorem DR.mono {ρ ρ' : Rho} (hs : Sub ρ ρ') : ∀ {ds : List (Option (FuncId × List Value))} {ds' : List Deferred}, DR ρ ds ds' → DR ρ' ds ds'
  | _, _, .nil => .nil
  | _, _, .cons h t => .cons (h.mono hs) (t.mono hs)
def marksOf (l : List Deferred) : List Nat := l.filterMap fun d => match d.target with
  | .collected r => some r
  | _ => none

/-- What a state that the evaluator has reached stands for. -/
structure At (ρ : Rho) (s : Fr) (h : H) (a : Act) (w : World) : Prop where
  tm : TR ρ s a.tmps
  hp : HR ρ h.obj w
  wf : WFH h
  df : DR ρ s.df a.defers

structure Marks (ρ : Rho) (h : H) (w : World) (B : Nat) (rs : List Nat) : Prop where
  nodup : rs.Nodup
  lo : ∀ r ∈ rs, B ≤ r
  hi : ∀ r ∈ rs, r < w.heap.size
  at_ : ∀ r ∈ rs, w.heap[r]? = some (.deferred (some []))
  free : ∀ r ∈ rs, Free ρ h.obj r

/-- What has become of a state between two moments of one activation. -/
structure XA (ρ : Rho) (h : H) (a : Act) (w : World) (ρ' : Rho) (h' : H) (a' : Act) (w' : World) : Prop extends Ext ρ h w ρ' h' w' where
  marks : ∃ ds, a'.defers = ds ++ a.defers ∧ Marks ρ' h' w' w.heap.size (marksOf ds)

theorem Marks.nil {ρ : Rho} {h : H} {w : World} {B : Nat} : Marks ρ h w B [] := ⟨List.nodup_nil, fun _ h => by simp at h, fun _ h => by simp at h, fun _ h => by simp at h, fun _ h => by simp at h⟩
theorem XA.same {ρ ρ' : Rho} {h h' : H} {a a' : Act} {w w' : World} (x : Ext ρ h w ρ' h' w') (e : a'.defers = a.defers) : XA ρ h a w ρ' h' a' w' := ⟨x, [], by simpa using e, .nil⟩
theorem XA.refl (ρ : Rho) (h : H) (a : Act) (w : World) : XA ρ h a w ρ h a w := .same (Ext.refl ρ h w) rfl
theorem Marks.ext {ρ ρ' : Rho} {h h' : H} {w w' : World} {B : Nat} {rs : List Nat} (m : Marks ρ h w B rs) (x : Ext ρ h w ρ' h' w') : Marks ρ' h' w' B rs :=
  ⟨m.nodup, m.lo, fun r hr => Nat.lt_of_lt_of_le (m.hi r hr) x.size, fun r hr => (x.keep r (m.hi r hr) (m.free r hr)).1.trans (m.at_ r hr), fun r hr => (x.keep r (m.hi r hr) (m.free r hr)).2⟩
theorem XA.trans {ρ ρ1 ρ2 : Rho} {h h1 h2 : H} {a a1 a2 : Act} {w w1 w2 : World} (x : XA ρ h a w ρ1 h1 a1 w1) (y : XA ρ1 h1 a1 w1 ρ2 h2 a2 w2) : XA ρ h a w ρ2 h2 a2 w2 := by
  obtain ⟨ds, e1, m1⟩ := x.marks
  obtain ⟨ds', e2, m2⟩ := y.marks
  have m1' := m1.ext y.toExt
  have hap : marksOf (ds' ++ ds) = marksOf ds' ++ marksOf ds := List.filterMap_append
  refine ⟨x.toExt.trans y.toExt, ds' ++ ds, by rw [e2, e1]; simp, ?_⟩
  rw [hap]
  refine ⟨List.nodup_append.2 ⟨m2.nodup, m1'.nodup, fun p hp q hq e => ?_⟩, fun r hr => ?_, fun r hr => ?_, fun r hr => ?_, fun r hr => ?_⟩
  · subst e; have k1 := m2.lo p hp; have k2 := m1.hi p hq; omega
  all_goals rcases List.mem_append.1 hr with hr | hr
  · exact Nat.le_trans x.size (m2.lo r hr)
  · exact m1'.lo r hr
  · exact m2.hi r hr
  · exact m1'.hi r hr
  · exact m2.at_ r hr
  · exact m1'.at_ r hr
  · exact m2.free r hr
  · exact m1'.free r hr

/-- A free block that was not there at the start may turn. -/
theorem HR.putObj {ρ : Rho} {g : Nat → Option AObj} {w : World} {r : Nat} {o : Obj} (hg : HR ρ g w) (hf : Free ρ g r) : HR ρ g (w.putObj r o) :=
  ⟨fun a i ob h1 h2 => by
    cases hl : ob.live with
    | false => cases ob <;> simp [AObj.live] at hl; trivial
    | true => rw [World.putObj_heap_other (fun e => hf a i ob h1 h2 hl e)]; exact hg.obj a i ob h1 h2, hg.inj, fun a i h1 => by rw [World.putObj_size]; exact hg.lt a i h1⟩
theorem Ext.putObj {ρ ρ' : Rho} {h h' : H} {w w' : World} {r : Nat} {o : Obj} (x : Ext ρ h w ρ' h' w') (hr : w.heap.size ≤ r) : Ext ρ h w ρ' h' (w'.putObj r o) :=
  ⟨x.sub, x.dom, fun b hb hf => ⟨by rw [World.putObj_heap_other (by omega)]; exact (x.keep b hb hf).1, (x.keep b hb hf).2⟩, fun b hb hf => ⟨by rw [World.putObj_heap_other (by omega)]; exact (x.keepM b hb hf).1, (x.keepM b hb hf).2⟩, by rw [World.putObj_size]; exact x.size, x.next, x.clk, x.absf, x.vers, x.wf, x.env⟩
theorem Marks.putObj {ρ : Rho} {h : H} {w : World} {B : Nat} {rs : List Nat} {r : Nat} {o : Obj} (m : Marks ρ h w B rs) (hr : r ∉ rs) : Marks ρ h (w.putObj r o) B rs :=
  ⟨m.nodup, m.lo, fun k hk => by rw [World.putObj_size]; exact m.hi k hk, fun k hk => by
    have hne : k ≠ r := fun e => by subst e; exact hr hk
    rw [World.putObj_heap_other hne]; exact m.at_ k hk, m.free⟩

/-- A call answers so, whatever the world: it may be shown by other means than the evaluator's. -/
def SemCall (P : Program) (f : FuncId) (args : List Value) (h : H) (v : Value) (h' : H) : Prop :=
  ∀ (ρ : Rho) (args' : Array Value) (w : World), VRs ρ args args'.toList → HR ρ h.obj w → WFH h → (∀ x, h.next ≤ x → x < h'.next → ρ x = none) →
    (∀ w0, (callFunc f args').run P w0 = .ok (.enter f args') w0) ∧
    CallsIn FW 0 P f args' w fun e w' => ∃ ρ' v', e = .returned v' ∧ VR ρ' v v' ∧ HR ρ' h'.obj w' ∧ Ext ρ h w ρ' h' w'

structure Sound (P : Program) (ih : Ih) : Prop where
  code : ∀ c s h ex s' h', ih c s h = .ok (ex, s', h') → ∀ (ρ : Rho) (a : Act) (w : World), At ρ s h a w → (∀ x, h.next ≤ x → x < h'.next → ρ x = none) →
    ∀ Q : Exit → Act → World → Prop, (∀ ρ' a' w', At ρ' s' h' a' w' → XA ρ h a w ρ' h' a' w' → Q (exOf ex) a' w') → c.wpIn FW 0 P Q a w
  loop : ∀ c s h ex s' h', ih (.loop c) s h = .ok (ex, s', h') → ∃ m, ∀ (ρ : Rho) (a : Act) (w : World), At ρ s h a w → (∀ x, h.next ≤ x → x < h'.next → ρ x = none) →
    ∀ Q : Exit → Act → World → Prop, (∀ ρ' a' w', At ρ' s' h' a' w' → XA ρ h a w ρ' h' a' w' → Q (exOf ex) a' w') → Code.roundsIn FW 0 P c Q m a w
  call : ∀ f args h v h', ih.k f args h = some (v, h') → SemCall P f args h v h'
  round : ∀ l c s h ex s' h', ih.r c s h = .ok (ex, s', h') → ∀ (ρ : Rho) (a : Act) (w : World), At ρ s h a w → (∀ x, h.next ≤ x → x < h'.next → ρ x = none) →
    ∀ Q : Exit → Act → World → Prop, (∀ ρ' a' w', At ρ' s' h' a' w' → XA ρ h a w ρ' h' a' w' → Q (exOf ex) a' w') → c.wpIn (FW.inRound l) 0 P Q a w
  rloop : ∀ l c s h ex s' h', ih.r (.loop c) s h = .ok (ex, s', h') → ∃ m, ∀ (ρ : Rho) (a : Act) (w : World), At ρ s h a w → (∀ x, h.next ≤ x → x < h'.next → ρ x = none) →
    ∀ Q : Exit → Act → World → Prop, (∀ ρ' a' w', At ρ' s' h' a' w' → XA ρ h a w ρ' h' a' w' → Q (exOf ex) a' w') → Code.roundsIn (FW.inRound l) 0 P c Q m a w

section
variable {P : Program} {ρ : Rho} {s : Fr} {a : Act} {ih : Ih}

theorem VR.bool' {b : Bool} {v : Value} (h : VR ρ v (.bool b)) : v = .bool b := by
  cases h with
  | atom _ => rfl
  | raw _ hb => exact absurd rfl (hb b)

def yieldedA (all : Array Oper) (s : Fr) (j : Nat) : Option Bool :=
  match (all[j]?).bind (·.dst) with
  | some d => match s.get d with
    | .bool b => some b
    | _ => none
  | none => none

theorem yielded_eq {all : Array Oper} {j : Nat} (ht : TR ρ s a.tmps) (hk : ∀ d, (all[j]?).bind (·.dst) = some d → known (s.get d) = true) : yielded all a.tmps j = yieldedA all s j := by
  unfold yielded yieldedA
  cases hd : (all[j]?).bind (·.dst) with
  | none => simp
  | some d =>
    simp only [Option.bind_some]
    have hv := (ht.get d).known (hk d hd)
    rw [Array.getD_eq_getD_getElem?] at hv
    cases ht' : a.tmps[d]? with
    | none =>
      rw [ht'] at hv
      simp only [Option.getD_none] at hv
      generalize s.get d = u at hv
      cases hv with
      | atom h => simp [okAtom, undef] at h
      | raw h _ => simp
      | tuple _ => simp
    | some u =>
      rw [ht'] at hv
      simp only [Option.getD_some] at hv
      cases hu : s.get d with
      | bool b => rw [hu] at hv; rw [hv.bool]
      | _ =>
        rw [hu] at hv
        cases u with
        | bool b => have := hv.bool'; simp at this
        | _ => simp

theorem wanted_eq {all : Array Oper} {o : Oper} (ht : TR ρ s a.tmps) (hk : guardOk all s o = true) : Region.wanted o (yielded all a.tmps) = wantedA all s o := by
  unfold Region.wanted wantedA
  cases hg : o.guard with
  | none => rfl
  | some p =>
    obtain ⟨j, want⟩ := p
    dsimp only
    rw [yielded_eq ht (fun d hd => by simpa only [guardOk, hg, hd] using hk)]
    unfold yieldedA
    cases hd : (all[j]?).bind (·.dst) with
    | none => simp
    | some d =>
      dsimp only
      cases s.get d <;> simp

def resSem (tm : Array Value) : ResultVar → Sem Value
  | .tmp t => pure (tm.getD t undef)
  | .cell p t => do loadVar t (← asAddr (tm.getD p undef))

theorem results_run {g : Nat → Option AObj} {w : World} (ht : TR ρ s a.tmps) (hg : HR ρ g w) : ∀ {l : List ResultVar} {vs : List Value}, resultsA P s g l = some vs →
    ∃ vs', VRs ρ vs vs' ∧ (l.mapM (resSem a.tmps)).run P w = .ok vs' w
  | [], vs, h => by simp [resultsA] at h; subst h; exact ⟨[], .nil, by simp⟩
  | r :: l, vs, h => by
    simp only [resultsA] at h
    split at h
    · simp at h
    · rename_i v hv
      split at h
      · simp at h
      · rename_i ws hws
        simp at h; subst h
        obtain ⟨ws', h1, h2⟩ := results_run ht hg hws
        have hone : ∃ v', VR ρ v v' ∧ (resSem a.tmps r).run P w = .ok v' w := by
          cases r with
          | tmp t =>
            simp only at hv
            have hk := (opt_false hv).1
            replace hv := (opt_false hv).2
            simp at hv; subst hv
            exact ⟨_, (ht.get t).known hk, rfl⟩
          | cell p t =>
            dsimp only at hv
            split at hv
            · rename_i b hb
              have hp := (ht.get p).known (by rw [hb]; rfl)
              rw [hb] at hp
              generalize e : a.tmps.getD p undef = u at hp
              cases hp with
              | atom hh => simp [okAtom] at hh
              | ptr k1 k2 =>
                obtain ⟨v', q1, q2⟩ := loadT_sim (P := P) hv k1 hg
                exact ⟨_, q1, by simp only [resSem, Sem.run_bind, e, asAddr, Sem.run_pure, Result.andThen_ok, q2]⟩
            · simp at hv
        obtain ⟨v', q1, q2⟩ := hone
        exact ⟨_, .cons q1 h1, by simp only [List.mapM_cons, Sem.run_bind, q2, h2, Result.andThen_ok, Sem.run_pure]⟩

theorem tuple_rel : ∀ {vs vs' : List Value}, VRs ρ vs vs' → VR ρ (tupleA vs) (if h : vs'.toArray.size = 1 then vs'.toArray[0] else .tuple vs'.toArray)
  | _, _, .nil => .tuple .nil
  | _, _, .cons (vs := vs) (vs' := vs') a t => by
    cases t with
    | nil => simpa [tupleA] using a
    | cons b u => simpa [tupleA] using VR.tuple (xs := (_ :: _ :: _).toArray) (by simpa using VRs.cons a (VRs.cons b u))

theorem results_ok {fn : Func} {g : Nat → Option AObj} {w : World} {vs : List Value} (ht : TR ρ s a.tmps) (hg : HR ρ g w) (h : resultsA P s g fn.results.toList = some vs) :
    ∃ v', VR ρ (tupleA vs) v' ∧ (results fn a.tmps).run P w = .ok v' w := by
  obtain ⟨vs', h1, h2⟩ := results_run (P := P) ht hg h
  refine ⟨_, tuple_rel h1, ?_⟩
  have he : results fn a.tmps = (do let vs ← fn.results.mapM (resSem a.tmps); pure (if h : vs.size = 1 then vs[0] else .tuple vs)) := by
    unfold results
    congr 1
  rw [he, Sem.run_bind, Array.mapM_eq_mapM_toList, Sem.run_map, h2]
  rfl

theorem frame_enter {fn : Func} {args : List Value} {args' : Array Value} (h : VRs ρ args args'.toList) (hle : args.length ≤ fn.ntmps) :
    TR ρ ⟨T.ofListFrom .nil 0 args, fn.ntmps, []⟩ (args' ++ Array.replicate (fn.ntmps - args'.size) undef) := by
  have hl : args'.size = args.length := by have := h.length; simpa using this.symm
  refine ⟨by simp; omega, fun t => ?_⟩
  simp only [Fr.get, T.get_ofListFrom, Nat.zero_add, Nat.sub_zero]
  by_cases ht : t < args.length
  · rw [if_pos ⟨by omega, ht⟩]
    obtain ⟨v', h1, h2⟩ := h.get (List.getElem?_eq_getElem ht)
    rw [List.getElem?_eq_getElem ht]
    have : (args' ++ Array.replicate (fn.ntmps - args'.size) undef).getD t undef = v' := by
      rw [Array.getD_eq_getD_getElem?, Array.getElem?_append_left (by omega)]
      have : args'[t]? = some v' := by simpa using h1
      simp [this]
    rw [this]; exact .inr h2
  · rw [if_neg (by omega)]
    have : (args' ++ Array.replicate (fn.ntmps - args'.size) undef).getD t undef = undef := by
      rw [Array.getD_eq_getD_getElem?, Array.getElem?_append_right (by omega)]
      by_cases h2 : t - args'.size < fn.ntmps - args'.size
      · simp [Array.getElem?_replicate, h2]
      · simp [Array.getElem?_replicate, h2]
    rw [this]; simp only [T.get]; exact .inr VR.undef

theorem opsRunS_sound {all : Array Oper} {c₀ : Frame} {cs : List Frame} (hc0 : c₀.mode = .returning) {Q : Exit → Act → List Frame → World → Prop} : ∀ (l : List Oper) (k : Nat) (s : Fr) (h : H) (s' : Fr) (h' : H) (ρ : Rho) (a : Act) (w : World),
    (∀ j, l[j]? = all[k + j]?) → opsRunS P all l s h = .ok (s', h') → At ρ s h a w → (∀ x, h.next ≤ x → x < h'.next → ρ x = none) →
    (∀ ρ' a' w', At ρ' s' h' a' w' → Ext ρ h w ρ' h' w' → a'.defers = a.defers → Q .normal a' (c₀ :: cs) w') → wpOpsSIn FW 0 P all Q (List.range' k l.length) a (c₀ :: cs) w
  | [], k, s, h, s', h', ρ, a, w, _, he, hat, _, hQ => by
    simp only [opsRunS] at he; cases he
    exact hQ ρ a w hat (Ext.refl _ _ _) rfl
  | o :: l, k, s, h, s', h', ρ, a, w, hl, he, hat, hdom, hQ => by
    have h0 : all[k]? = some o := by simpa using (hl 0).symm
    have hl' : ∀ j, l[j]? = all[k + 1 + j]? := fun j => by have := hl (j + 1); simpa [Nat.add_assoc, Nat.add_comm 1 j] using this
    simp only [List.length_cons, List.range'_succ]
    unfold wpOpsSIn
    rw [h0]
    simp only
    refine ⟨fun _ _ => trivial, ?_⟩
    simp only [opsRunS] at he
    have hgk := (exc_false he).1
    replace he := (exc_false he).2
    rw [wanted_eq hat.tm hgk]
    -- on behind the operation
    have go : ∀ (s1 : Fr) (h1 : H) (v v' : Value) (ρ1 : Rho) (w1 : World), opsRunS P all l s1 h1 = .ok (s', h') → s.put o.dst v = some s1 → VR ρ1 v v' → HR ρ1 h1.obj w1 → Ext ρ h w ρ1 h1 w1 →
        wpOpsSIn FW 0 P all Q (List.range' (k + 1) l.length) (a.put o.dst v') (c₀ :: cs) w1 := by
      intro s1 h1 v v' ρ1 w1 hr hs hv hp E
      refine opsRunS_sound hc0 l (k + 1) s1 h1 s' h' ρ1 _ w1 hl' hr ⟨(hat.tm.mono E.sub).put hv hs, hp, E.wf hat.wf, by rw [Fr.put_df hs]; cases o.dst <;> exact hat.df.mono E.sub⟩ (fun x x1 x2 => ?_) (fun ρ'' a'' w'' r1 r2 r3 => hQ ρ'' a'' w'' r1 (E.trans r2) (r3.trans (by cases o.dst <;> rfl)))
      cases hz : ρ1 x with
      | none => rfl
      | some y =>
        have h3 := hdom x (Nat.le_trans E.next x1) x2
        have := (E.dom x h3 (by rw [hz]; rfl)).2; omega
    have hlt1 : ∀ {s1 : Fr} {h1 : H}, opsRunS P all l s1 h1 = .ok (s', h') → ∀ x, h.next ≤ x → x < h1.next → ρ x = none := fun hr x x1 x2 => hdom x x1 (Nat.lt_of_lt_of_le x2 (opsRunS_ext hr).1.next)
    rcases cond_or he with ⟨hw, he⟩ | ⟨hw, he⟩
    · rw [if_pos hw]
      rcases cond_or he with ⟨hrc, he⟩ | ⟨hrc, he⟩
      · split at he
        · rename_i s1 hs
          have hrun : (execOp a.eval o).run P w = .ok .recover w := by
            unfold isRecover at hrc
            split at hrc
            · rename_i c hop
              split at hrc
              · rename_i hcal
                simp [execOp, hop, resolve, hcal, invoke, builtin]
              · simp at hrc
            · simp at hrc
          rw [hrun]
          have hrec : recoverD (c₀ :: cs) = none := by simp [recoverD, hc0]
          simp only [hrec]
          exact go s1 h .nilIface .nilIface ρ w he hs (.atom rfl) hat.hp (Ext.refl _ _ _)
        · cases he
      · split at he
        · rename_i v1 h1 hex
          split at he
          · rename_i s1 hs
            have hd1 := hlt1 he
            unfold exec at hex
            split at hex
            · split at hex
              · rename_i u hu
                cases hex
                obtain ⟨v', k1, k2⟩ := simP hu hat.tm
                rw [k2 w]
                exact go s1 _ _ v' ρ w he hs k1 hat.hp (Ext.refl _ _ _)
              · cases hex
            · split at hex
              · rename_i u ob hu
                cases hex
                have hfresh : ρ h.next = none := hd1 _ (Nat.le_refl _) (Nat.lt_succ_self _)
                obtain ⟨w', v', o', N, k1, k2, k3, k4⟩ := simA hu hat.tm w hfresh
                rw [k1]
                obtain ⟨q1, q2⟩ := ext_new hfresh hat.hp k2 k4
                exact go s1 _ _ v' _ w' he hs k3 q1 q2
              · cases hex
            · split at hex
              · rename_i u hu
                cases hex
                obtain ⟨w', v', k1, k2, k3, k4, k5⟩ := simR hu hat.tm w hat.hp
                rw [k1]
                exact go s1 _ _ v' ρ w' he hs k2 k4 (ext_same k3 k5)
              · cases hex
            · obtain ⟨ρ', w', v', k1, k2, k3, k4⟩ := simE hex hat.tm hat.hp hat.wf (fun h2 hr hlt => by
                rcases hr with ⟨_, hr⟩ | hr <;> cases hr; exact hd1 _ (Nat.le_refl _) hlt)
              rw [k1]
              exact go s1 _ _ v' ρ' w' he hs k2 k3 k4
          · cases he
        · rename_i h1 hex
          split at he
          · rename_i s1 hs
            have hd1 := hlt1 he
            unfold exec at hex
            split at hex
            · split at hex <;> cases hex
            · split at hex <;> cases hex
            · split at hex <;> cases hex
            · obtain ⟨ρ', w', k1, k3, k4⟩ := simE hex hat.tm hat.hp hat.wf (fun h2 hr hlt => by
                rcases hr with ⟨_, hr⟩ | hr <;> cases hr; exact hd1 _ (Nat.le_refl _) hlt)
              rw [k1]
              exact go s1 _ _ undef ρ' w' he hs VR.undef k3 k4
          · cases he
        · cases he
    · rw [if_neg (by rw [hw]; simp)]
      split at he
      · rename_i s1 hs
        exact go s1 h undef undef ρ w he hs VR.undef hat.hp (Ext.refl _ _ _)
      · cases he

theorem dom_behind {h h1 h' : H} {w w' : World} {ρ ρ' : Rho} (hdom : ∀ x, h.next ≤ x → x < h'.next → ρ x = none) (E : Ext ρ h w ρ' h1 w') : ∀ x, h1.next ≤ x → x < h'.next → ρ' x = none := by
  intro x x1 x2
  cases hz : ρ' x with
  | none => rfl
  | some y =>
    have h3 := hdom x (Nat.le_trans E.next x1) x2
    have := (E.dom x h3 (by rw [hz]; rfl)).2; omega

/-- A deferred function's code. -/
theorem evalS_sound (hi : Sound P ih) (hx : IhExt ih) {c₀ : Frame} {cs : List Frame} (hc0 : c₀.mode = .returning) : ∀ (c : Code) (s : Fr) (h : H) (ex : AEx) (s' : Fr) (h' : H), evalS P ih c s h = .ok (ex, s', h') → ∀ (ρ : Rho) (a : Act) (w : World), At ρ s h a w →
    (∀ x, h.next ≤ x → x < h'.next → ρ x = none) → ∀ Q : Exit → Act → List Frame → World → Prop, (∀ ρ' a' w', At ρ' s' h' a' w' → XA ρ h a w ρ' h' a' w' → Q (exOf ex) a' (c₀ :: cs) w') →
    c.wpSIn FW 0 P Q a (c₀ :: cs) w := by
  have direct : ∀ (c : Code) (s : Fr) (h : H) (ex : AEx) (s' : Fr) (h' : H), ih c s h = .ok (ex, s', h') → ∀ (ρ : Rho) (a : Act) (w : World), At ρ s h a w →
      (∀ x, h.next ≤ x → x < h'.next → ρ x = none) → ∀ Q : Exit → Act → List Frame → World → Prop, (∀ ρ' a' w', At ρ' s' h' a' w' → XA ρ h a w ρ' h' a' w' → Q (exOf ex) a' (c₀ :: cs) w') →
      c.wpSIn FW 0 P Q a (c₀ :: cs) w := fun c s h ex s' h' he ρ a w hat hdom Q hQ => wpSIn_of_wpIn rfl (hi.code c s h ex s' h' he ρ a w hat hdom _ hQ)
  intro c
  induction c with
  | seq x y ihx ihy =>
    intro s h ex s' h' he ρ a w hat hdom Q hQ
    simp only [evalS] at he
    split at he
    · rename_i s1 h1 h2
      have e2 := (evalS_ext hx _ he).1
      refine wpSIn_seq (ihx s h .normal s1 h1 h2 ρ a w hat (fun z z1 z2 => hdom z z1 (Nat.lt_of_lt_of_le z2 e2.next)) _ (fun ρ' a' w' r1 r2 => ?_))
      exact ihy s1 h1 ex s' h' he ρ' a' w' r1 (dom_behind hdom r2.toExt) Q (fun ρ'' a'' w'' r3 r4 => hQ ρ'' a'' w'' r3 (r2.trans r4))
    · rename_i hne
      refine wpSIn_seq (ihx s h ex s' h' he ρ a w hat hdom _ (fun ρ' a' w' r1 r2 => ?_))
      have hq := hQ ρ' a' w' r1 r2
      cases ex with
      | normal => exact absurd he (hne s' h')
      | exit id => exact hq
      | ret => exact hq
  | cond c x y ihx ihy =>
    intro s h ex s' h' he ρ a w hat hdom Q hQ
    simp only [evalS] at he
    split at he
    · rename_i hc
      exact wpSIn_cond (hat.tm.ev hc).bool (ihx s h ex s' h' he ρ a w hat hdom Q hQ)
    · rename_i hc
      exact wpSIn_cond (t := false) (hat.tm.ev hc).bool (ihy s h ex s' h' he ρ a w hat hdom Q hQ)
    · cases he
  | region id ops draw =>
    intro s h ex s' h' he ρ a w hat hdom Q hQ
    cases draw with
    | false =>
      simp only [evalS] at he
      split at he
      · cases he
      · rename_i s1 h1 hr
        cases he
        refine wpSIn_region ?_
        have := opsRunS_sound hc0 (Q := Q) ops.toList 0 s h s' h' ρ a w (fun j => by simp) hr hat hdom (fun ρ' a' w' r1 r2 r3 => hQ ρ' a' w' r1 (.same r2 r3))
        rwa [Array.length_toList, ← List.range_eq_range'] at this
    | true => exact direct _ s h ex s' h' (by simpa only [evalS] using he) ρ a w hat hdom Q hQ
  | _ => intro s h ex s' h' he ρ a w hat hdom Q hQ; exact direct _ s h ex s' h' (by simpa only [evalS] using he) ρ a w hat hdom Q hQ

theorem leaves_all (hi : Sound P ih) (hx : IhExt ih) {fn : Func} {s' : Fr} {h h2 : H} {w : World} {ρ0 : Rho} {vs : List Value} (hres : resultsA P s' h2.obj fn.results.toList = some vs) :
    ∀ (df : List (Option (FuncId × List Value))) {ds : List Deferred} {h1 : H} {w1 : World} {ρ1 : Rho} {tm : Array Value}, DR ρ1 df ds → runDefers P ih df h1 = .ok h2 → TR ρ1 s' tm → HR ρ1 h1.obj w1 → WFH h1 → Ext ρ0 h w ρ1 h1 w1 → Marks ρ1 h1 w1 w.heap.size (marksOf ds) →
      (∀ x, h1.next ≤ x → x < h2.next → ρ1 x = none) →
      LeavesInM FW 0 P fn tm (fun e w' => ∃ ρ' v', e = .returned v' ∧ VR ρ' (tupleA vs) v' ∧ HR ρ' h2.obj w' ∧ Ext ρ0 h w ρ' h2 w') ds .returning w1
  | [], ds, h1, w1, ρ1, tm, hdr, he, ht, hp, _, E, _, _ => by
    cases hdr
    simp only [runDefers] at he; cases he
    obtain ⟨v', k1, k2⟩ := results_ok (a := { tmps := tm, defers := [] }) (P := P) ht hp hres
    exact ⟨v', k2, ρ1, v', rfl, k1, hp, E⟩
  | d :: df, ds, h1, w1, ρ1, tm, hdr, he, ht, hp, hwf, E, hm, hdom => by
    cases hdr with
    | cons hd1 t =>
      rename_i ds'
      cases hd1 with
      | mark r =>
        simp only [runDefers] at he
        have hmk : ∀ l, marksOf (mark r :: l) = r :: marksOf l := fun l => rfl
        rw [hmk] at hm
        have hnd := List.nodup_cons.1 hm.nodup
        refine ⟨by simp, .inl ⟨r, _, rfl, run_takeDeferred (hm.at_ r (by simp)), ?_⟩⟩
        refine leaves_all hi hx hres df t he ht (hp.putObj (hm.free r (by simp))) hwf (E.putObj (hm.lo r (by simp))) ?_ hdom
        exact Marks.putObj ⟨hnd.2, fun k hk => hm.lo k (by simp [hk]), fun k hk => hm.hi k (by simp [hk]), fun k hk => hm.at_ k (by simp [hk]), fun k hk => hm.free k (by simp [hk])⟩ hnd.1
      | call hargs =>
        rename_i g args ar cap
        simp only [runDefers] at he
        split at he
        · cases he
        · rename_i h3 hd
          have hd0 := hd
          unfold callD at hd
          split at hd
          · cases hd
          · rename_i fn2 hf
            split at hd
            · cases hd
            · rename_i body hb
              have hc := (exc_false hd).1
              replace hd := (exc_false hd).2
              simp only [Bool.and_eq_true, Bool.not_eq_true'] at hc
              have hle := Nat.le_of_ble_eq_true hc.1
              have hne : ¬ fn2.name = "runtime.NumGoroutine" := by simpa using hc.2
              split at hd
              · cases hd
              · cases hd
              · rename_i ex s2 h4 hex hbody
                split at hd
                · rename_i rs hdf hrs
                  cases hd
                  have e3 := (runDefers_ext hx he)
                  refine ⟨by simp, .inr ⟨fun hh => by simp [FW, Fence.wide] at hh, .func g, cap, g, ar ++ cap, rfl, by simp [invoke, callFunc, hf, hne, hb], fun _ _ => trivial, ?_⟩⟩
                  refine callsDIn_of_wpSIn hf hb trivial (fun c₀ cs hmode => ?_)
                  refine evalS_sound hi hx hmode body _ h1 ex s2 h3 hbody ρ1 _ w1 ⟨frame_enter hargs hle, hp, hwf, .nil⟩ (fun x x1 x2 => hdom x x1 (Nat.lt_of_lt_of_le x2 e3.next)) _ (fun ρ' a' w' hat hxa => ?_)
                  have hnil : a'.defers = [] := by
                    have := hat.df
                    rw [hdf] at this
                    generalize a'.defers = dd at this
                    cases this; rfl
                  obtain ⟨v', k1, k2⟩ := results_ok (P := P) hat.tm hat.hp hrs
                  have hrest : LeavesInM FW 0 P fn tm (fun e w' => ∃ ρ' v', e = .returned v' ∧ VR ρ' (tupleA vs) v' ∧ HR ρ' h2.obj w' ∧ Ext ρ0 h w ρ' h2 w') ds' .returning w' :=
                    leaves_all hi hx hres df (t.mono hxa.sub) he (ht.mono hxa.sub) hat.hp hat.wf (E.trans hxa.toExt) (hm.ext hxa.toExt) (dom_behind hdom hxa.toExt)
                  have hpost : bodyPostS P fn2 c₀ cs (fun e u' w' => match e, u', w' with
                      | .returned _, u', w' => LeavesInM FW 0 P fn tm (fun e w' => ∃ ρ' v', e = .returned v' ∧ VR ρ' (tupleA vs) v' ∧ HR ρ' h2.obj w' ∧ Ext ρ0 h w ρ' h2 w') ds' (settle u') w'
                      | .panicked chain, u', w' => LeavesInM FW 0 P fn tm (fun e w' => ∃ ρ' v', e = .returned v' ∧ VR ρ' (tupleA vs) v' ∧ HR ρ' h2.obj w' ∧ Ext ρ0 h w ρ' h2 w') ds' (raised u' chain) w'
                      | .outgrown, _, w' => ∃ ρ' v', Ending.outgrown = .returned v' ∧ VR ρ' (tupleA vs) v' ∧ HR ρ' h2.obj w' ∧ Ext ρ0 h w ρ' h2 w') .normal a' (c₀ :: cs) w' :=
                    ⟨hnil, .returning, by rw [← hmode], v', k2, hrest⟩
                  cases ex with
                  | normal => exact hpost
                  | ret => exact hpost
                  | exit id => exact absurd rfl (hex id)
                · cases hd

theorem callA_sound (hi : Sound P ih) (hx : IhExt ih) {f : FuncId} {args : List Value} {args' : Array Value} {h h' : H} {v : Value} {w : World} (he : callA P ih f args h = .ok (v, h')) (hargs : VRs ρ args args'.toList)
    (hg : HR ρ h.obj w) (hwf : WFH h) (hdom : ∀ x, h.next ≤ x → x < h'.next → ρ x = none) :
    (∀ w0, (callFunc f args').run P w0 = .ok (.enter f args') w0) ∧
    CallsIn FW 0 P f args' w fun e w' => ∃ ρ' v', e = .returned v' ∧ VR ρ' v v' ∧ HR ρ' h'.obj w' ∧ Ext ρ h w ρ' h' w' := by
  unfold callA at he
  split at he
  · rename_i hk
    cases he
    exact hi.call _ _ _ _ _ hk ρ args' w hargs hg hwf hdom
  split at he
  · cases he
  · rename_i fn hf
    split at he
    · cases he
    · rename_i body hb
      have hc := (exc_false he).1
      replace he := (exc_false he).2
      simp only [Bool.and_eq_true, Bool.not_eq_true'] at hc
      have hle := Nat.le_of_ble_eq_true hc.1
      refine ⟨fun w0 => ?_, ?_⟩
      · have hne : ¬ fn.name = "runtime.NumGoroutine" := by simpa using hc.2
        simp [callFunc, hf, hne, hb]
      · split at he
        · cases he
        · cases he
        · rename_i ex s' h2 hex hbody
          split at he
          · cases he
          · rename_i h3 hdf
            split at he
            · rename_i vs hres
              cases he
              have e3 := runDefers_ext hx hdf
              refine callsIn_of_wp_marks hf hb trivial ?_
              refine hi.code body _ h ex s' h2 hbody ρ _ w ⟨frame_enter hargs hle, hg, hwf, .nil⟩ (fun x x1 x2 => hdom x x1 (Nat.lt_of_lt_of_le x2 e3.next)) _ (fun ρ' a' w' hat hext => ?_)
              obtain ⟨ds, hds, hm⟩ := hext.marks
              simp only [List.append_nil] at hds
              rw [← hds] at hm
              have hpost := leaves_all (P := P) hi hx (fn := fn) hres _ hat.df hdf hat.tm hat.hp hat.wf hext.toExt hm (dom_behind hdom hext.toExt)
              cases ex with
              | normal => exact hpost
              | ret => exact hpost
              | exit id => exact absurd rfl (hex id)
            · cases he

theorem extA_sound {f : FuncId} {args : List Value} {args' : Array Value} {v : Value} (he : extA P f args = some v) (hargs : VRs ρ args args'.toList) :
    ∃ v', VR ρ v v' ∧ ∀ w, (callFunc f args').run P w = .ok (.value v') w := by
  unfold extA at he
  split at he
  · rename_i fn hf
    have hc := (opt_false he).1
    replace he := (opt_false he).2
    simp only [Bool.and_eq_true, Bool.or_eq_true, beq_iff_eq] at hc
    unfold extV at he
    split at he
    · rename_i s c
      have hn := (opt_false he).1
      replace he := (opt_false he).2
      simp only [Option.some.injEq] at he; subst he
      have hn : fn.name = "internal/bytealg.IndexByteString" := by simpa using hn
      have hA : args' = #[.string s, .int .u8 c] := by
        apply Array.ext'
        generalize args'.toList = al at hargs
        cases hargs with
        | cons p1 q1 => cases q1 with
          | cons p2 q2 => cases q2; rw [p1.string, p2.int]
      subst hA
      have e1 : Extern.findNext fn = none := by
        unfold Extern.findNext
        rcases hc.2 with h | h
        · rw [h, hn]; kernel_rfl
        · rw [h, hn]; kernel_rfl
      have e2 : Extern.find fn = some Extern.BytealgIndexByte.indexByte := by
        unfold Extern.find
        rw [hn]; kernel_rfl
      refine ⟨_, .atom rfl, fun w => ?_⟩
      rw [run_callFunc_extern hf (by rw [hn]; rfl) hc.1 e1 e2, run_indexByte_string]; rfl
    · simp at he
  · simp at he

/-- One operation. -/
theorem opV_sound (hi : Sound P ih) (hx : IhExt ih) {all : Array Oper} {o : Oper} {h h' : H} {v : Value} {w : World} (he : opV P ih all o s h = .ok (v, h')) (hat : At ρ s h a w)
    (hdom : ∀ x, h.next ≤ x → x < h'.next → ρ x = none) {K : Act → World → Prop} {Q : Exit → Act → World → Prop}
    (hK : ∀ ρ' w' v', VR ρ' v v' → HR ρ' h'.obj w' → Ext ρ h w ρ' h' w' → K (a.put o.dst v') w') :
    if Region.wanted o (yielded all a.tmps) then o.wpIn FW 0 P a w K Q else (∀ f, o.about P w a.eval = some f → FW.fn f) ∧ K (a.put o.dst undef) w := by
  unfold opV at he
  have hgk := (exc_false he).1
  replace he := (exc_false he).2
  rw [wanted_eq hat.tm hgk]
  rcases cond_or he with ⟨hw, he⟩ | ⟨hw, he⟩
  · rw [if_pos hw]
    refine ⟨fun _ _ => trivial, ?_⟩
    show o.uponIn FW 0 P a K Q ((execOp a.eval o).run P w)
    split at he
    · cases he
    · rename_i v1 h1 hex
      cases he
      unfold exec at hex
      split at hex
      · split at hex
        · rename_i u hu
          cases hex
          obtain ⟨v', k1, k2⟩ := simP hu hat.tm
          rw [k2 w]
          exact hK ρ w v' k1 hat.hp (Ext.refl ρ h w)
        · cases hex
      · split at hex
        · rename_i u ob hu
          cases hex
          have hfresh : ρ h.next = none := hdom _ (Nat.le_refl _) (Nat.lt_succ_self _)
          obtain ⟨w', v', o', N, k1, k2, k3, k4⟩ := simA hu hat.tm w hfresh
          rw [k1]
          obtain ⟨q1, q2⟩ := ext_new hfresh hat.hp k2 k4
          exact hK _ w' v' k3 q1 q2
        · cases hex
      · split at hex
        · rename_i u hu
          cases hex
          obtain ⟨w', v', k1, k2, k3, k4, k5⟩ := simR hu hat.tm w hat.hp
          rw [k1]
          exact hK ρ w' v' k2 k4 (ext_same k3 k5)
        · cases hex
      · obtain ⟨ρ', w', v', k1, k2, k3, k4⟩ := simE hex hat.tm hat.hp hat.wf (fun h2 hr hlt => by
          rcases hr with ⟨_, hr⟩ | hr <;> cases hr; exact hdom _ (Nat.le_refl _) hlt)
        rw [k1]
        exact hK ρ' w' v' k2 k3 k4
    · rename_i h1 hex
      cases he
      unfold exec at hex
      split at hex
      · split at hex <;> cases hex
      · split at hex <;> cases hex
      · split at hex <;> cases hex
      · obtain ⟨ρ', w', k1, k3, k4⟩ := simE hex hat.tm hat.hp hat.wf (fun h2 hr hlt => by
          rcases hr with ⟨_, hr⟩ | hr <;> cases hr; exact hdom _ (Nat.le_refl _) hlt)
        rw [k1]
        exact hK ρ' w' undef VR.undef k3 k4
    · rename_i f args hex
      unfold exec at hex
      split at hex
      · split at hex <;> cases hex
      · split at hex <;> cases hex
      · split at hex <;> cases hex
      · obtain ⟨args', k1, k2⟩ := simE hex hat.tm hat.hp hat.wf (fun h2 hr hlt => by
          rcases hr with ⟨_, hr⟩ | hr <;> cases hr)
        split at he
        · rename_i v1 hev
          cases he
          obtain ⟨v', q1, q2⟩ := extA_sound hev k2
          rw [k1, q2 w]
          exact hK ρ w v' q1 hat.hp (Ext.refl ρ h w)
        obtain ⟨q1, q2⟩ := callA_sound hi hx he k2 hat.hp hat.wf hdom
        rw [k1, q1 w]
        refine ⟨fun hh => by simp [FW, Fence.wide] at hh, ?_⟩
        refine q2.mono ?_
        rintro e w' ⟨ρ', v', rfl, r1, r2, r3⟩
        exact hK ρ' w' v' r1 r2 r3
  · rw [if_neg (by rw [hw]; simp)]
    cases he
    exact ⟨fun _ _ => trivial, hK ρ w undef VR.undef hat.hp (Ext.refl ρ h w)⟩

theorem putArgs_rel : ∀ {ps : List Tmp} {vs args' : List Value} {s s' : Fr} {tm : Array Value}, putArgs s ps vs = some s' → TR ρ s tm → VRs ρ vs args' →
    ps.length = args'.length ∧ TR ρ s' ((ps.zip args').foldl (fun tmps (p : Tmp × Value) => tmps.setIfInBounds p.1 p.2) tm) ∧ s'.df = s.df
  | [], [], _, s, s', tm, he, ht, hv => by cases hv; simp only [putArgs, Option.some.injEq] at he; subst he; exact ⟨rfl, ht, rfl⟩
  | [], _ :: _, _, s, s', tm, he, ht, hv => by simp [putArgs] at he
  | _ :: _, [], _, s, s', tm, he, ht, hv => by simp [putArgs] at he
  | t :: ts, v :: vs, args', s, s', tm, he, ht, hv => by
    cases hv with
    | cons q1 q2 =>
      simp only [putArgs] at he
      split at he
      · rename_i s1 hs
        have k : TR ρ s1 (tm.setIfInBounds t _) := ht.put (a := { tmps := tm, defers := [] }) q1 hs
        obtain ⟨k1, k2, k3⟩ := putArgs_rel he k q2
        exact ⟨by simp [k1], by simpa using k2, k3.trans (Fr.put_df hs)⟩
      · cases he

theorem ext_loop {h : H} {w : World} {b : Nat} {i : BI} {st st' : LoopState} {pend pend' : Option Code} {tm : T Value} {nt : Nat} {ps : List Tmp} {asg body : Code} {r : Loop}
    (hi : ρ b = some i) (hb : h.obj b = some (.loop st pend tm nt ps asg body)) (hg : HR ρ h.obj w) (hwf : WFH h) (hr : w.heap[i.b]? = some (.loop r)) :
    HR ρ (h.upd b (.loop st' pend' tm nt ps asg body)).obj (w.putObj i.b (.loop { r with state := st', pending := pend' })) ∧
    Ext ρ h w ρ (h.upd b (.loop st' pend' tm nt ps asg body)) (w.putObj i.b (.loop { r with state := st', pending := pend' })) := by
  obtain ⟨h0, r0, h1, h2, h3, h4, h5, h6, h7⟩ := hg.obj b i _ hi hb
  rw [hr] at h1
  simp only [Option.some.injEq, Obj.loop.injEq] at h1; subst h1
  have hlt := hg.lt b i hi
  exact ext_upd hi hb rfl hg (by rw [World.putObj_heap_same hlt]; exact ⟨h0, _, rfl, rfl, rfl, h4, h5, h6, h7⟩) (fun x hx => World.putObj_heap_other hx) ⟨World.putObj_size, rfl, rfl⟩ hwf

theorem yield_run {o : Oper} {h : H} {w : World} {y : YC} (hy : yieldOf s h o = some y) (ht : TR ρ s a.tmps) (hg : HR ρ h.obj w) {s0 : Fr} (hp : putArgs ⟨y.tm, y.nt, []⟩ y.ps y.vs = some s0) :
    ∃ i st pend r tmps', ρ y.b = some i ∧ h.obj y.b = some (.loop st pend y.tm y.nt y.ps y.asg y.body) ∧ w.heap[i.b]? = some (.loop r) ∧ TR ρ s0 tmps' ∧ s0.df = [] ∧
      (execOp a.eval o).run P w = .ok (.round i.b r.fn tmps' y.asg y.body) w := by
  unfold yieldOf at hy
  split at hy
  · rename_i c hop
    split at hy
    · rename_i f hcal
      unfold yieldIn at hy
      split at hy
      · rename_i b x1 x2 hf
        split at hy
        · rename_i st pend tm nt ps asg body hb
          split at hy
          · rename_i vs hvs
            simp only [Option.some.injEq] at hy; subst hy
            have hfv := ht.ev hf
            have hargs := ht.evs hvs
            generalize e : a.eval f = u at hfv
            cases hfv with
            | atom hh => simp [okAtom] at hh
            | yield hρ =>
              rename_i i
              obtain ⟨h0, r, h1, h2, h3, h4, h5, h6, h7⟩ := hg.obj b i _ hρ hb
              obtain ⟨k1, k2, k3⟩ := putArgs_rel hp h4 hargs
              refine ⟨i, st, pend, r, _, hρ, hb, h1, k2, k3, ?_⟩
              have hsz : (c.args.map a.eval).size = r.params.size := by
                have : r.params.size = ps.length := by rw [← h5]; simp
                rw [this, k1]; simp
              have hy := run_yield (P := P) (args := c.args.map a.eval) h1 hsz
              have hz : (r.params.zip (c.args.map a.eval)).foldl (fun tmps (x : Tmp × Value) => tmps.setIfInBounds x.1 x.2) r.tmps =
                  (ps.zip (List.map a.eval c.args.toList)).foldl (fun tmps (p : Tmp × Value) => tmps.setIfInBounds p.1 p.2) r.tmps := by
                rw [← Array.foldl_toList, Array.toList_zip, h5, Array.toList_map]
              rw [← hz]
              simp only at hy ⊢
              rw [h6, h7] at hy
              rw [← hy]
              simp [execOp, hop, resolve, hcal, e, Deferred.ofValue, invoke]
          · cases hy
        · cases hy
      · cases hy
    · cases hy
  · cases hy

/-- One operation, in a statement whose order is the text's. -/
theorem opY_sound (hi : Sound P ih) (hx : IhExt ih) {all : Array Oper} {o : Oper} {h h' : H} {v : Value} {w : World} (he : opY P ih all o s h = .ok (v, h')) (hat : At ρ s h a w)
    (hdom : ∀ x, h.next ≤ x → x < h'.next → ρ x = none) {K : Act → World → Prop} {Q : Exit → Act → World → Prop}
    (hK : ∀ ρ' w' v', VR ρ' v v' → HR ρ' h'.obj w' → Ext ρ h w ρ' h' w' → K (a.put o.dst v') w') :
    if Region.wanted o (yielded all a.tmps) then o.wpIn FW 0 P a w K Q else (∀ f, o.about P w a.eval = some f → FW.fn f) ∧ K (a.put o.dst undef) w := by
  unfold opY at he
  split at he
  · exact opV_sound hi hx he hat hdom hK
  rename_i y hy
  rcases (cond_or he).symm with ⟨_, he⟩ | ⟨hgw, he⟩
  · exact opV_sound hi hx he hat hdom hK
  simp only [Bool.and_eq_true] at hgw
  rw [wanted_eq hat.tm hgw.1, if_pos hgw.2]
  refine ⟨fun _ _ => trivial, ?_⟩
  show o.uponIn FW 0 P a K Q ((execOp a.eval o).run P w)
  unfold roundA at he
  split at he
  · cases he
  rename_i s0 hp
  obtain ⟨i, st, pend, r, tmps', hρ, hb, hr, k2, k3, hrun⟩ := yield_run (P := P) hy hat.tm hat.hp hp
  rw [hrun, Oper.uponIn_round]
  refine ⟨fun hh => by simp [FW, Fence.wide] at hh, roundIn_of_wpIn trivial ?_⟩
  split at he
  · rename_i s1 h1 hasg
    have e1 := beginA_ext hx he
    refine hi.round i.b y.asg s0 h .normal s1 h1 hasg ρ _ w ⟨k2, hat.hp, hat.wf, by rw [k3]; exact .nil⟩ (fun x x1 x2 => hdom x x1 (Nat.lt_of_lt_of_le x2 e1.next)) _ (fun ρ1 a1 w1 hat1 X1 => ?_)
    have hd1 := dom_behind hdom X1.toExt
    have hρ1 := X1.sub _ _ hρ
    unfold beginA at he
    split at he
    · rename_i pend1 tm1 nt1 ps1 asg1 body1 hb1
      obtain ⟨_, r1, q1, q2, _⟩ := hat1.hp.obj _ _ _ hρ1 hb1
      refine ⟨_, run_beginRound q1 q2, ?_⟩
      obtain ⟨j1, j2⟩ := ext_loop (st' := .busy) (pend' := r1.pending) hρ1 hb1 hat1.hp hat1.wf q1
      have hpe : r1.pending = pend1 := by
        obtain ⟨_, r1', q1', _, q3, _⟩ := hat1.hp.obj _ _ _ hρ1 hb1
        rw [q1] at q1'
        simp only [Option.some.injEq, Obj.loop.injEq] at q1'; subst q1'; exact q3
      rw [hpe] at j1 j2
      have hw1 : ({ r1 with state := .busy, pending := pend1 } : Loop) = { r1 with state := .busy } := by rw [← hpe]
      rw [hw1] at j1 j2
      split at he
      · rename_i ex s2 h2 hbd
        have e2 := endA_ext he
        refine hi.round i.b y.body s1 _ ex s2 h2 hbd ρ1 a1 _ ⟨hat1.tm, j1, j2.wf hat1.wf, hat1.df⟩ (fun x x1 x2 => hd1 x x1 (Nat.lt_of_lt_of_le x2 e2.next)) _ (fun ρ2 a2 w2 hat2 X2 => ?_)
        have hρ2 := X2.sub _ _ hρ1
        unfold endA at he
        split at he
        · rename_i st2 pend2 tm2 nt2 ps2 asg2 body2 hb2
          obtain ⟨_, r2, p1, _⟩ := hat2.hp.obj _ _ _ hρ2 hb2
          have X := (X1.toExt.trans j2).trans X2.toExt
          split at he
          · rename_i hj
            cases he
            have hex : ex = .normal := by cases ex <;> simp [jumpOf] at hj; rfl
            subst hex
            obtain ⟨g1, g2⟩ := ext_loop (st' := .ready) (pend' := none) hρ2 hb2 hat2.hp hat2.wf p1
            exact ⟨_, _, run_endRound none p1, hK ρ2 _ _ (.atom rfl) g1 (X.trans g2)⟩
          · rename_i j hj
            cases he
            obtain ⟨g1, g2⟩ := ext_loop (st' := .done) (pend' := some j) hρ2 hb2 hat2.hp hat2.wf p1
            cases ex with
            | normal => simp [jumpOf] at hj
            | ret => simp only [jumpOf, Option.some.injEq] at hj; subst hj; exact ⟨_, _, run_endRound (some .ret) p1, hK ρ2 _ _ (.atom rfl) g1 (X.trans g2)⟩
            | exit id => simp only [jumpOf, Option.some.injEq] at hj; subst hj; exact ⟨_, _, run_endRound (some (.exit id)) p1, hK ρ2 _ _ (.atom rfl) g1 (X.trans g2)⟩
        · cases he
      · cases he
    · cases he
  · cases he
  · cases he

end
end Go.Proofs.YtdocmpnofklaoaaGreatDoor.Ev

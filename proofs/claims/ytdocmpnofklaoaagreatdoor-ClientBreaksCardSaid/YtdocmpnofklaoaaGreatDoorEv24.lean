/- Laws over states of the evaluator: loops, states told anew, calls. -/
import Derived.Test.YtdocmpnofklaoaaGreatDoorEv23
namespace Go.Proofs.YtdocmpnofklaoaaGreatDoor.Ev
open Go
set_option linter.unusedSimpArgs false

/-- No block is named that is not yet numbered. -/
def Dom (ρ : Rho) (h : H) : Prop := ∀ x, h.next ≤ x → ρ x = none

structure WX (k0 pin : Nat) (ρ : Rho) (h : H) (a : Act) (w : World) (ρ' : Rho) (h' : H) (a' : Act) (w' : World) : Prop where
  pins : ∀ x, x < pin → ρ' x = ρ x
  keep : ∀ b, k0 ≤ b → b < w.heap.size → Free ρ h.obj b → w'.heap[b]? = w.heap[b]? ∧ Free ρ' h'.obj b
  keepM : ∀ b, b < w.heap.size → FreeM ρ h.obj b → w'.heap[b]? = w.heap[b]? ∧ FreeM ρ' h'.obj b
  size : w.heap.size ≤ w'.heap.size
  env : Env w w'
  marks : ∃ ds, a'.defers = ds ++ a.defers ∧ Marks ρ' h' w' w.heap.size (marksOf ds)

theorem WX.refl (k0 pin : Nat) (ρ : Rho) (h : H) (a : Act) (w : World) : WX k0 pin ρ h a w ρ h a w :=
  ⟨fun _ _ => rfl, fun _ _ _ hf => ⟨rfl, hf⟩, fun _ _ hf => ⟨rfl, hf⟩, Nat.le_refl _, Env.refl w, [], rfl, .nil⟩

theorem WX.trans {k0 pin : Nat} {ρ ρ1 ρ2 : Rho} {h h1 h2 : H} {a a1 a2 : Act} {w w1 w2 : World} (x : WX k0 pin ρ h a w ρ1 h1 a1 w1) (y : WX k0 pin ρ1 h1 a1 w1 ρ2 h2 a2 w2) (hk0 : k0 ≤ w.heap.size) : WX k0 pin ρ h a w ρ2 h2 a2 w2 := by
  obtain ⟨ds, e1, m1⟩ := x.marks
  obtain ⟨ds', e2, m2⟩ := y.marks
  have m1' : Marks ρ2 h2 w2 w.heap.size (marksOf ds) :=
    ⟨m1.nodup, m1.lo, fun r hr => Nat.lt_of_lt_of_le (m1.hi r hr) y.size, fun r hr => (y.keep r (Nat.le_trans hk0 (m1.lo r hr)) (m1.hi r hr) (m1.free r hr)).1.trans (m1.at_ r hr), fun r hr => (y.keep r (Nat.le_trans hk0 (m1.lo r hr)) (m1.hi r hr) (m1.free r hr)).2⟩
  have hap : marksOf (ds' ++ ds) = marksOf ds' ++ marksOf ds := List.filterMap_append
  refine ⟨fun z hz => (y.pins z hz).trans (x.pins z hz), fun b hb0 hb hf => ?_, fun b hb hf => ?_, Nat.le_trans x.size y.size, x.env.trans y.env, ds' ++ ds, by rw [e2, e1]; simp, ?_⟩
  · obtain ⟨k1, k2⟩ := x.keep b hb0 hb hf
    obtain ⟨k3, k4⟩ := y.keep b hb0 (Nat.lt_of_lt_of_le hb x.size) k2
    exact ⟨k3.trans k1, k4⟩
  · obtain ⟨k1, k2⟩ := x.keepM b hb hf
    obtain ⟨k3, k4⟩ := y.keepM b (Nat.lt_of_lt_of_le hb x.size) k2
    exact ⟨k3.trans k1, k4⟩
  rw [hap]
  refine ⟨List.nodup_append.2 ⟨m2.nodup, m1'.nodup, fun p hp q hq e => ?_⟩, fun r hr => ?_, fun r hr => ?_, fun r hr => ?_, fun r hr => ?_⟩
  · subst e; have k1 := m2.lo p hp; have k2 := m1.hi p hq; omega
  all_goals rcases List.mem_append.1 hr with hr | hr
  · exact Nat.le_trans x.size (m2.lo r hr)
  · exact m1'.lo r hr
  · exact m2.hi r hr
  · exact m1'.hi r hr
  · exact m2.at_ r hr
  · exact m1'.at_ r hr
  · exact m2.free r hr
  · exact m1'.free r hr

theorem WX.of_XA {k0 pin : Nat} {ρ ρ' : Rho} {h h' : H} {a a' : Act} {w w' : World} (hp : pin ≤ h.next) (x : XA ρ h a w ρ' h' a' w') : WX k0 pin ρ h a w ρ' h' a' w' := by
  refine ⟨fun z hz => ?_, fun b _ => x.keep b, x.keepM, x.size, x.env, x.marks⟩
  cases e : ρ z with
  | some i => exact x.sub z i e
  | none =>
    cases e' : ρ' z with
    | none => rfl
    | some i => have := (x.dom z e (by rw [e']; rfl)).1; omega

theorem Dom.of_ext {ρ ρ' : Rho} {h h' : H} {w w' : World} (d : Dom ρ h) (x : Ext ρ h w ρ' h' w') : Dom ρ' h' := by
  intro z hz
  cases e' : ρ' z with
  | none => rfl
  | some i =>
    have e := d z (Nat.le_trans x.next hz)
    have := (x.dom z e (by rw [e']; rfl)).2; omega

/-- What was in memory at first is there. -/
structure Bg (w0 : World) (ρ : Rho) (h : H) (w : World) : Prop where
  size : w0.heap.size ≤ w.heap.size
  same : ∀ b, b < w0.heap.size → w.heap[b]? = w0.heap[b]?
  free : ∀ b, b < w0.heap.size → FreeM ρ h.obj b
theorem Bg.wx {w0 : World} {k0 pin : Nat} {ρ ρ' : Rho} {h h' : H} {a a' : Act} {w w' : World} (g : Bg w0 ρ h w) (x : WX k0 pin ρ h a w ρ' h' a' w') : Bg w0 ρ' h' w' :=
  ⟨Nat.le_trans g.size x.size, fun b hb => (x.keepM b (Nat.lt_of_lt_of_le hb g.size) (g.free b hb)).1.trans (g.same b hb), fun b hb => (x.keepM b (Nat.lt_of_lt_of_le hb g.size) (g.free b hb)).2⟩
/-- Nothing was. -/
def noW (w : World) : World := { w with heap := #[] }
theorem Bg.none {v : World} {ρ : Rho} {h : H} {w : World} : Bg (noW v) ρ h w := ⟨Nat.zero_le _, fun _ hb => absurd hb (Nat.not_lt_zero _), fun _ hb => absurd hb (Nat.not_lt_zero _)⟩

section
variable (P : Program) (w0 : World)

/-- From such a state code comes to such states. -/
def Wp (pin : Nat) (c : Code) (s : Fr) (h : H) (Q : AEx → Fr → H → Prop) : Prop :=
  ∀ (ρ : Rho) (a : Act) (w : World), At ρ s h a w → Dom ρ h → pin ≤ h.next → Bg w0 ρ h w →
    c.wpIn FW 0 P (fun e a' w' => ∃ ρ' x s' h', e = exOf x ∧ Q x s' h' ∧ At ρ' s' h' a' w' ∧ Dom ρ' h' ∧ pin ≤ h'.next ∧ WX w0.heap.size pin ρ h a w ρ' h' a' w') a w

/-- A state may be told so. -/
def Cov (pin : Nat) (s : Fr) (h : H) (s2 : Fr) (h2 : H) : Prop :=
  ∀ (ρ : Rho) (a : Act) (w : World), At ρ s h a w → Dom ρ h → pin ≤ h.next →
    ∃ ρ2, At ρ2 s2 h2 a w ∧ Dom ρ2 h2 ∧ pin ≤ h2.next ∧ (∀ x, x < pin → ρ2 x = ρ x) ∧ (∀ b, Free ρ h.obj b → Free ρ2 h2.obj b) ∧ ∀ b, FreeM ρ h.obj b → FreeM ρ2 h2.obj b

end

section
variable {P : Program} {w0 : World} {pin : Nat} {s : Fr} {h : H} {Q : AEx → Fr → H → Prop}

theorem Wp.mono {c : Code} {Q' : AEx → Fr → H → Prop} (x : Wp P w0 pin c s h Q) (hq : ∀ e s' h', Q e s' h' → Q' e s' h') : Wp P w0 pin c s h Q' :=
  fun ρ a w h1 h2 h3 h4 => wpIn_mono (x ρ a w h1 h2 h3 h4) fun _ _ _ ⟨ρ', e', s', h', k1, k2, k3⟩ => ⟨ρ', e', s', h', k1, hq _ _ _ k2, k3⟩

theorem Cov.refl (pin : Nat) (s : Fr) (h : H) : Cov pin s h s h := fun ρ _ _ h1 h2 h3 => ⟨ρ, h1, h2, h3, fun _ _ => rfl, fun _ hf => hf, fun _ hf => hf⟩

theorem Wp.cov {c : Code} {s2 : Fr} {h2 : H} (hc : Cov pin s h s2 h2) (x : Wp P w0 pin c s2 h2 Q) : Wp P w0 pin c s h Q := by
  intro ρ a w h1 hd hp hb
  obtain ⟨ρ2, k1, k2, k3, k4, k5, k6⟩ := hc ρ a w h1 hd hp
  refine wpIn_mono (x ρ2 a w k1 k2 k3 ⟨hb.size, hb.same, fun b hlt => k6 b (hb.free b hlt)⟩) ?_
  rintro e a' w' ⟨ρ', x', s', h', q1, q2, q3, q4, q5, q6⟩
  refine ⟨ρ', x', s', h', q1, q2, q3, q4, q5, fun z hz => (q6.pins z hz).trans (k4 z hz), fun b hb0 hb hf => q6.keep b hb0 hb (k5 b hf), fun b hb hf => q6.keepM b hb (k6 b hf), q6.size, q6.env, q6.marks⟩

theorem Wp.eval (hm : P.follows .mixedOrders = true) {kt : KT} (hkt : KTOk P kt) {n : Nat} {orc : List (Nat × Orc)} {c : Code} {ex : AEx} {s' : Fr} {h' : H} {o : O}
    (he : evalG P kt n c s h ⟨orc, 0, True⟩ = .ok (ex, s', h', o)) (hob : o.ob) (hq : Q ex s' h') : Wp P w0 pin c s h Q := by
  intro ρ a w h1 hd hp _
  obtain ⟨_, q⟩ := (evalG_follows P kt n).code _ _ _ _ _ _ _ _ he hob
  have hx := (evalK_ext (ktK_knows hkt).ext n).code _ _ _ _ _ _ q
  refine (evalK_sound hm (ktK_knows hkt) n).code _ _ _ _ _ _ q ρ a w h1 (fun x x1 _ => hd x x1) _ (fun ρ' a' w' k1 k2 => ?_)
  exact ⟨ρ', ex, s', h', rfl, hq, k1, hd.of_ext k2.toExt, Nat.le_trans hp k2.next, .of_XA hp k2⟩

theorem Wp.skip (hq : Q .normal s h) : Wp P w0 pin .skip s h Q := fun ρ _ _ h1 h2 h3 _ => wpIn_skip ⟨ρ, .normal, s, h, rfl, hq, h1, h2, h3, .refl _ _ _ _ _ _⟩
theorem Wp.exit {id : Nat} (hq : Q (.exit id) s h) : Wp P w0 pin (.exit id) s h Q := fun ρ _ _ h1 h2 h3 _ => wpIn_exit ⟨ρ, .exit id, s, h, rfl, hq, h1, h2, h3, .refl _ _ _ _ _ _⟩
theorem Wp.ret (hq : Q .ret s h) : Wp P w0 pin .ret s h Q := fun ρ _ _ h1 h2 h3 _ => wpIn_ret ⟨ρ, .ret, s, h, rfl, hq, h1, h2, h3, .refl _ _ _ _ _ _⟩

theorem Wp.seq {x y : Code} (hx : Wp P w0 pin x s h fun e s' h' => match e with
      | .normal => Wp P w0 pin y s' h' Q
      | e => Q e s' h') : Wp P w0 pin (.seq x y) s h Q := by
  intro ρ a w h1 hd hp hb
  refine wpIn_seq (wpIn_mono (hx ρ a w h1 hd hp hb) ?_)
  rintro e a' w' ⟨ρ', x', s', h', rfl, q2, q3, q4, q5, q6⟩
  cases x' with
  | normal =>
    refine wpIn_mono (q2 ρ' a' w' q3 q4 q5 (hb.wx q6)) ?_
    rintro e a2 w2 ⟨ρ2, x2, s2, h2, r1, r2, r3, r4, r5, r6⟩
    exact ⟨ρ2, x2, s2, h2, r1, r2, r3, r4, r5, q6.trans r6 hb.size⟩
  | exit id => exact ⟨ρ', .exit id, s', h', rfl, q2, q3, q4, q5, q6⟩
  | ret => exact ⟨ρ', .ret, s', h', rfl, q2, q3, q4, q5, q6⟩

theorem Wp.cond {c : Operand} {x y : Code} {b : Bool} (hc : ev s c = some (.bool b)) (ht : b = true → Wp P w0 pin x s h Q) (hf : b = false → Wp P w0 pin y s h Q) : Wp P w0 pin (.cond c x y) s h Q := by
  intro ρ a w h1 hd hp hb
  cases b with
  | true => exact wpIn_cond_true (h1.tm.ev hc).bool (ht rfl ρ a w h1 hd hp hb)
  | false => exact wpIn_cond_false (h1.tm.ev hc).bool (hf rfl ρ a w h1 hd hp hb)

theorem Wp.block {id : Nat} {c : Code} (hc : Wp P w0 pin c s h fun e s' h' => match e with
      | .exit id' => if id' = id then Q .normal s' h' else Q (.exit id') s' h'
      | e => Q e s' h') : Wp P w0 pin (.block id c) s h Q := by
  intro ρ a w h1 hd hp hb
  refine wpIn_block (wpIn_mono (hc ρ a w h1 hd hp hb) ?_)
  rintro e a' w' ⟨ρ', x', s', h', rfl, q2, q3, q4, q5, q6⟩
  cases x' with
  | normal => exact ⟨ρ', .normal, s', h', rfl, q2, q3, q4, q5, q6⟩
  | ret => exact ⟨ρ', .ret, s', h', rfl, q2, q3, q4, q5, q6⟩
  | exit id' =>
    show (if id' = id then _ else _)
    simp only at q2
    by_cases e : id' = id
    · rw [if_pos e] at q2 ⊢
      exact ⟨ρ', .normal, s', h', rfl, q2, q3, q4, q5, q6⟩
    · rw [if_neg e] at q2 ⊢
      exact ⟨ρ', .exit id', s', h', rfl, q2, q3, q4, q5, q6⟩

/-- A loop: a relation that every round keeps, with fewer rounds left. -/
theorem Wp.loop {c : Code} (I : Nat → Fr → H → Prop) (round : ∀ m s h, I m s h → Wp P w0 pin c s h fun e s' h' => match e with
      | .normal => ∃ m', m' < m ∧ I m' s' h'
      | e => Q e s' h') : ∀ m s h, I m s h → Wp P w0 pin (.loop c) s h Q := by
  have key : ∀ (m : Nat) (s : Fr) (h : H), I m s h → ∀ (ρ : Rho) (a : Act) (w : World), At ρ s h a w → Dom ρ h → pin ≤ h.next → Bg w0 ρ h w →
      Code.roundsIn FW 0 P c (fun e a' w' => ∃ ρ' x s' h', e = exOf x ∧ Q x s' h' ∧ At ρ' s' h' a' w' ∧ Dom ρ' h' ∧ pin ≤ h'.next ∧ WX w0.heap.size pin ρ h a w ρ' h' a' w') (m + 1) a w := by
    intro m
    induction m using Nat.strongRecOn with
    | ind m ih =>
      intro s h hI ρ a w h1 hd hp hb
      rw [roundsIn_succ]
      refine wpIn_mono (round m s h hI ρ a w h1 hd hp hb) ?_
      rintro e a' w' ⟨ρ', x', s', h', rfl, q2, q3, q4, q5, q6⟩
      cases x' with
      | exit id => exact ⟨ρ', .exit id, s', h', rfl, q2, q3, q4, q5, q6⟩
      | ret => exact ⟨ρ', .ret, s', h', rfl, q2, q3, q4, q5, q6⟩
      | normal =>
        obtain ⟨m', hlt, hI'⟩ := q2
        have hr := ih m' hlt s' h' hI' ρ' a' w' q3 q4 q5 (hb.wx q6)
        have mono : ∀ (Q1 Q2 : Exit → Act → World → Prop), (∀ e a w, Q1 e a w → Q2 e a w) → ∀ k a w, Code.roundsIn FW 0 P c Q1 k a w → Code.roundsIn FW 0 P c Q2 k a w := by
          intro Q1 Q2 h12 k
          induction k with
          | zero => intro a w hk; exact hk.elim
          | succ k ihk =>
            intro a w hk
            rw [roundsIn_succ] at hk ⊢
            refine wpIn_mono hk ?_
            intro e a w hq
            cases e with
            | normal => exact ihk a w hq
            | exit id => exact h12 _ _ _ hq
            | goto l => exact h12 _ _ _ hq
            | ret => exact h12 _ _ _ hq
            | panic ch => exact h12 _ _ _ hq
            | outgrown => exact h12 _ _ _ hq
        have more : ∀ (Q1 : Exit → Act → World → Prop) k a w, Code.roundsIn FW 0 P c Q1 k a w → Code.roundsIn FW 0 P c Q1 (k + 1) a w := by
          intro Q1 k
          induction k with
          | zero => intro a w hk; exact hk.elim
          | succ k ihk =>
            intro a w hk
            rw [roundsIn_succ] at hk ⊢
            refine wpIn_mono hk ?_
            intro e a w hq
            cases e with
            | normal => exact ihk a w hq
            | exit id => exact hq
            | goto l => exact hq
            | ret => exact hq
            | panic ch => exact hq
            | outgrown => exact hq
        have hr2 := mono _ (fun e a2 w2 => ∃ ρ2 x s2 h2, e = exOf x ∧ Q x s2 h2 ∧ At ρ2 s2 h2 a2 w2 ∧ Dom ρ2 h2 ∧ pin ≤ h2.next ∧ WX w0.heap.size pin ρ h a w ρ2 h2 a2 w2)
          (fun e a2 w2 ⟨ρ2, x2, s2, h2, r1, r2, r3, r4, r5, r6⟩ => ⟨ρ2, x2, s2, h2, r1, r2, r3, r4, r5, q6.trans r6 hb.size⟩) _ _ _ hr
        have up : ∀ j, Code.roundsIn FW 0 P c (fun e a2 w2 => ∃ ρ2 x s2 h2, e = exOf x ∧ Q x s2 h2 ∧ At ρ2 s2 h2 a2 w2 ∧ Dom ρ2 h2 ∧ pin ≤ h2.next ∧ WX w0.heap.size pin ρ h a w ρ2 h2 a2 w2) (m' + 1 + j) a' w' := by
          intro j
          induction j with
          | zero => exact hr2
          | succ j ihj => exact more _ _ _ _ ihj
        have := up (m - (m' + 1))
        rw [show m' + 1 + (m - (m' + 1)) = m by omega] at this
        exact this
  intro m s h hI ρ a w h1 hd hp hb
  exact wpIn_loop_rounds (m + 1) (key m s h hI ρ a w h1 hd hp hb)

end

/-! ### Values under other numbers -/

mutual
/-- The second value is the first, its blocks numbered anew. -/
inductive RV (σ : Nat → Nat) (N : Nat) : Value → Value → Prop
  | atom {v : Value} (h : okAtom v = true) : RV σ N v v
  | ptr {a : Addr} (h : a.block < N) (hs : a.spot = none) : RV σ N (.pointer (some a)) (.pointer (some ⟨σ a.block, a.off, none⟩))
  | slice {a : Addr} {n c : Nat} (h : a.block < N) : RV σ N (.slice (some a) n c) (.slice (some ⟨σ a.block, a.off, a.spot⟩) n c)
  | map {r : Nat} (h : r < N) : RV σ N (.map (some r)) (.map (some (σ r)))
  | func {f : FuncId} {fs fs' cs cs' : Array Value} (h1 : RVs σ N fs.toList fs'.toList) (h2 : RVs σ N cs.toList cs'.toList) : RV σ N (.func (.func f) fs cs) (.func (.func f) fs' cs')
  | raw {v : Value} : RV σ N (rawV v) (rawV v)
  | iface {t : TypeId} {v v' : Value} (ht : t ≠ rawT) (h : RV σ N v v') : RV σ N (.iface t v) (.iface t v')
  | agg {xs ys : Array Value} (h : RVs σ N xs.toList ys.toList) : RV σ N (.agg xs) (.agg ys)
  | tuple {xs ys : Array Value} (h : RVs σ N xs.toList ys.toList) : RV σ N (.tuple xs) (.tuple ys)
inductive RVs (σ : Nat → Nat) (N : Nat) : List Value → List Value → Prop
  | nil : RVs σ N [] []
  | cons {v v' : Value} {vs vs' : List Value} (h : RV σ N v v') (t : RVs σ N vs vs') : RVs σ N (v :: vs) (v' :: vs')
end

section
variable {σ : Nat → Nat} {N : Nat} {ρ ρ2 : Rho}

theorem VR.atom_eq {v v' : Value} (h : VR ρ v v') (ha : okAtom v = true) : v' = v := by
  cases h <;> first | rfl | (simp [okAtom] at ha)
theorem VR.raw_eq {v v' : Value} (h : VR ρ (rawV v) v') : v' = v ∧ v.oneCell' = true ∧ ∀ b, v ≠ .bool b := by
  cases h with
  | atom h => simp [okAtom] at h
  | raw h hb => exact ⟨rfl, h, hb⟩
  | iface ht _ => exact absurd rfl ht

mutual
/-- What is related under the new numbers is related under the old ones. -/
theorem RV.pull (he : ∀ x, x < N → ρ2 x = ρ (σ x)) : ∀ {v2 v v' : Value}, RV σ N v2 v → VR ρ v v' → VR ρ2 v2 v'
  | _, _, _, .atom ha, h => by rw [h.atom_eq ha]; exact .atom ha
  | _, _, _, .ptr ha hs, h => by
    cases h with
    | atom h => simp [okAtom] at h
    | ptr h1 h2 => exact .ptr (by rw [he _ ha]; exact h1) hs
  | _, _, _, .slice ha, h => by
    cases h with
    | atom h => simp [okAtom] at h
    | slice h1 h2 h3 h4 h5 h6 h7 => exact .slice (by rw [he _ ha]; exact h1) h2 h3 h4 h5 h6 h7
  | _, _, _, .map ha, h => by
    cases h with
    | atom h => simp [okAtom] at h
    | map h1 => exact .map (by rw [he _ ha]; exact h1)
  | _, _, _, .func a b, h => by
    cases h with
    | atom h => simp [okAtom] at h
    | func h1 h2 => exact .func (RVs.pull he a h1) (RVs.pull he b h2)
  | _, _, _, .raw, h => by
    obtain ⟨e, h1, h2⟩ := h.raw_eq
    subst e; exact .raw h1 h2
  | _, _, _, .iface ht a, h => by
    cases h with
    | atom h => simp [okAtom] at h
    | raw h1 h2 => exact absurd rfl ht
    | iface _ h1 => exact .iface ht (RV.pull he a h1)
  | _, _, _, .agg a, h => by
    cases h with
    | atom h => simp [okAtom] at h
    | agg h1 => exact .agg (RVs.pull he a h1)
  | _, _, _, .tuple a, h => by
    cases h with
    | atom h => simp [okAtom] at h
    | tuple h1 => exact .tuple (RVs.pull he a h1)
theorem RVs.pull (he : ∀ x, x < N → ρ2 x = ρ (σ x)) : ∀ {v2 v v' : List Value}, RVs σ N v2 v → VRs ρ v v' → VRs ρ2 v2 v'
  | _, _, _, .nil, h => by cases h; exact .nil
  | _, _, _, .cons a t, h => by
    cases h with
    | cons h1 h2 => exact .cons (RV.pull he a h1) (RVs.pull he t h2)
end

mutual
/-- What is related under the old numbers is related under the new ones. -/
theorem RV.push (he : ∀ x, x < N → ρ2 x = ρ (σ x)) : ∀ {v2 v v' : Value}, RV σ N v2 v → VR ρ2 v2 v' → VR ρ v v'
  | _, _, _, .atom ha, h => by rw [h.atom_eq ha]; exact .atom ha
  | _, _, _, .ptr ha hs, h => by
    cases h with
    | atom h => simp [okAtom] at h
    | ptr h1 h2 =>
      rw [he _ ha] at h1
      exact VR.ptr (a := ⟨σ _, _, none⟩) h1 rfl
  | _, _, _, .slice ha, h => by
    cases h with
    | atom h => simp [okAtom] at h
    | slice h1 h2 h3 h4 h5 h6 h7 =>
      rw [he _ ha] at h1
      exact VR.slice (a := ⟨σ _, _, _⟩) h1 h2 h3 h4 h5 h6 h7
  | _, _, _, .map ha, h => by
    cases h with
    | atom h => simp [okAtom] at h
    | map h1 => exact .map (by rw [he _ ha] at h1; exact h1)
  | _, _, _, .func a b, h => by
    cases h with
    | atom h => simp [okAtom] at h
    | func h1 h2 => exact .func (RVs.push he a h1) (RVs.push he b h2)
  | _, _, _, .raw, h => by
    obtain ⟨e, h1, h2⟩ := h.raw_eq
    subst e; exact .raw h1 h2
  | _, _, _, .iface ht a, h => by
    cases h with
    | atom h => simp [okAtom] at h
    | raw h1 h2 => exact absurd rfl ht
    | iface _ h1 => exact .iface ht (RV.push he a h1)
  | _, _, _, .agg a, h => by
    cases h with
    | atom h => simp [okAtom] at h
    | agg h1 => exact .agg (RVs.push he a h1)
  | _, _, _, .tuple a, h => by
    cases h with
    | atom h => simp [okAtom] at h
    | tuple h1 => exact .tuple (RVs.push he a h1)
theorem RVs.push (he : ∀ x, x < N → ρ2 x = ρ (σ x)) : ∀ {v2 v v' : List Value}, RVs σ N v2 v → VRs ρ2 v2 v' → VRs ρ v v'
  | _, _, _, .nil, h => by cases h; exact .nil
  | _, _, _, .cons a t, h => by
    cases h with
    | cons h1 h2 => exact .cons (RV.push he a h1) (RVs.push he t h2)
end

/-! ### Objects under other numbers -/

inductive RMs (σ : Nat → Nat) (N : Nat) : List MapEntry → List MapEntry → Prop
  | nil : RMs σ N [] []
  | cons {e e' : MapEntry} {es es' : List MapEntry} (hk : RV σ N e.key e'.key) (hv : RV σ N e.val e'.val) (hb : e'.born = e.born) (t : RMs σ N es es') : RMs σ N (e :: es) (e' :: es')

theorem RMs.pull (he : ∀ x, x < N → ρ2 x = ρ (σ x)) : ∀ {l2 l l' : List MapEntry}, RMs σ N l2 l → MRs ρ l l' → MRs ρ2 l2 l'
  | _, _, _, .nil, h => by cases h; exact .nil
  | _, _, _, .cons a b c t, h => by
    cases h with
    | cons h1 h2 h3 h4 => exact .cons (a.pull he h1) (b.pull he h2) (h3.trans c) (t.pull he h4)
theorem RMs.push (he : ∀ x, x < N → ρ2 x = ρ (σ x)) : ∀ {l2 l l' : List MapEntry}, RMs σ N l2 l → MRs ρ2 l2 l' → MRs ρ l l'
  | _, _, _, .nil, h => by cases h; exact .nil
  | _, _, _, .cons a b c t, h => by
    cases h with
    | cons h1 h2 h3 h4 => exact .cons (a.push he h1) (b.push he h2) (h3.trans c.symm) (t.push he h4)

/-- The second object is the first, its blocks numbered anew (or more is known of it). -/
inductive RO (σ : Nat → Nat) (N : Nat) : AObj → AObj → Prop
  | dead {o : AObj} : RO σ N .dead o
  | row {n n' : Nat} {cs cs' : T Value} {e e' : TypeId} (he : Nat.beq e roT = Nat.beq e' roT) (hn : n ≤ n') (h : ∀ j v, j < n → cs.get j = some v → ∃ v', cs'.get j = some v' ∧ RV σ N v v') : RO σ N (.row n cs e) (.row n' cs' e')
  | map {es es' : List MapEntry} {cl : Nat} (h : RMs σ N es es') : RO σ N (.map es cl) (.map es' cl)
  | iter0 {since last : Nat} {seen : List Nat} : RO σ N (.iter none since seen last) (.iter none since seen last)
  | iter {m since last : Nat} {seen : List Nat} (hm : m < N) : RO σ N (.iter (some m) since seen last) (.iter (some (σ m)) since seen last)
  | siter {b : ByteArray} {p : Nat} : RO σ N (.siter b p) (.siter b p)

theorem RO.pull (he : ∀ x, x < N → ρ2 x = ρ (σ x)) {i : BI} {o2 o : AObj} {ob : Option Obj} (h : RO σ N o2 o) (hr : OR ρ i o ob) : OR ρ2 i o2 ob := by
  cases h with
  | dead => trivial
  | row hen hn h =>
    obtain ⟨arr, e, fr, h1, h2, h3, h4, h5⟩ := hr
    refine ⟨arr, e, fr, h1, h2, by omega, by rw [hen]; exact h4, fun j v hj hv => ?_⟩
    obtain ⟨v1, q1, q2⟩ := h j v hj hv
    obtain ⟨v', q3, q4⟩ := h5 j v1 (by omega) q1
    exact ⟨v', q3, q2.pull he q4⟩
  | map h => obtain ⟨es', h1, h2⟩ := hr; exact ⟨es', h1, h.pull he h2⟩
  | iter0 => exact hr
  | iter hm =>
    obtain ⟨h0, m', h1, j, h2, h3⟩ := hr
    exact ⟨h0, m', h1, j, by rw [he _ hm]; exact h2, h3⟩
  | siter => exact hr

theorem RO.mut {o2 o : AObj} (h : RO σ N o2 o) (hm : o2.mut = true) : o.mut = true := by
  cases h with
  | dead => simp [AObj.mut, AObj.live] at hm
  | row he _ _ => simpa [AObj.mut, AObj.live, AObj.ro, he] using hm
  | _ => rfl

/-- The other way: the same object, its blocks numbered anew. -/
inductive RO' (σ : Nat → Nat) (N : Nat) : AObj → AObj → Prop
  | dead {o : AObj} : RO' σ N o .dead
  | row {n n' : Nat} {cs cs' : T Value} {e e' : TypeId} (he : Nat.beq e roT = Nat.beq e' roT) (hn : n' ≤ n) (h : ∀ j v', j < n' → cs'.get j = some v' → ∃ v, cs.get j = some v ∧ RV σ N v v') : RO' σ N (.row n cs e) (.row n' cs' e')
  | map {es es' : List MapEntry} {cl : Nat} (h : RMs σ N es es') : RO' σ N (.map es cl) (.map es' cl)
  | iter0 {since last : Nat} {seen : List Nat} : RO' σ N (.iter none since seen last) (.iter none since seen last)
  | iter {m since last : Nat} {seen : List Nat} (hm : m < N) : RO' σ N (.iter (some m) since seen last) (.iter (some (σ m)) since seen last)
  | siter {b : ByteArray} {p : Nat} : RO' σ N (.siter b p) (.siter b p)

theorem RO'.push (he : ∀ x, x < N → ρ2 x = ρ (σ x)) {i : BI} {o2 o : AObj} {ob : Option Obj} (h : RO' σ N o2 o) (hr : OR ρ2 i o2 ob) : OR ρ i o ob := by
  cases h with
  | dead => trivial
  | row hen hn h =>
    obtain ⟨arr, e, fr, h1, h2, h3, h4, h5⟩ := hr
    refine ⟨arr, e, fr, h1, h2, by omega, by rw [← hen]; exact h4, fun j v hj hv => ?_⟩
    obtain ⟨v1, q1, q2⟩ := h j v hj hv
    obtain ⟨v', q3, q4⟩ := h5 j v1 (by omega) q1
    exact ⟨v', q3, q2.push he q4⟩
  | map h => obtain ⟨es', h1, h2⟩ := hr; exact ⟨es', h1, h.push he h2⟩
  | iter0 => exact hr
  | iter hm =>
    obtain ⟨h0, m', h1, j, h2, h3⟩ := hr
    exact ⟨h0, m', h1, j, by rw [he _ hm] at h2; exact h2, h3⟩
  | siter => exact hr

theorem RO'.mut {o2 o : AObj} (h : RO' σ N o2 o) (hm : o.mut = true) : o2.mut = true := by
  cases h with
  | dead => simp [AObj.mut, AObj.live] at hm
  | row he _ _ => simpa [AObj.mut, AObj.live, AObj.ro, he] using hm
  | _ => rfl

/-- A state told anew: what is known of it, under other numbers. -/
theorem Cov.mk {pin : Nat} {s s2 : Fr} {h h2 : H} (σ : Nat → Nat) (hσ : ∀ x, x < pin → σ x = x) (hpin : pin ≤ h2.next) (hnt : s2.nt = s.nt) (hdf : s2.df = s.df) (hdf' : ∀ d ∈ s.df, d = none)
    (hfr : ∀ t, t < s2.nt → s2.get t = anyV ∨ RV σ h2.next (s2.get t) (s.get t)) (hout : ∀ t, s2.nt ≤ t → s2.get t = undef) (hwf : WFH h2)
    (hob : ∀ a o, h2.obj a = some o → o.live = true → a < h2.next → ∃ o1, h.obj (σ a) = some o1 ∧ o1.live = true ∧ RO σ h2.next o o1)
    (hinj : ∀ a a' o o', h2.obj a = some o → h2.obj a' = some o' → o.mut = true → o'.live = true → σ a = σ a' → a = a') : Cov pin s h s2 h2 := by
  intro ρ a w hat hd hp
  let ρ2 : Rho := fun x => if x < h2.next then ρ (σ x) else none
  have he : ∀ x, x < h2.next → ρ2 x = ρ (σ x) := fun x hx => if_pos hx
  have hlt : ∀ x i, ρ2 x = some i → x < h2.next ∧ ρ (σ x) = some i := by
    intro x i hx
    by_cases hc : x < h2.next
    · exact ⟨hc, by rw [← he x hc]; exact hx⟩
    · simp only [ρ2, if_neg hc] at hx; cases hx
  refine ⟨ρ2, ⟨⟨by rw [hnt]; exact hat.tm.size, fun t => ?_⟩, ⟨?_, ?_, ?_⟩, hwf, ?_⟩, fun x hx => if_neg (by omega), hpin, fun x hx => ?_, fun b hf => ?_, fun b hf => ?_⟩
  · rcases Nat.lt_or_ge t s2.nt with htn | htn
    case inr =>
      have hsz := hat.tm.size
      rw [hout t htn, Array.getD_eq_getD_getElem?, Array.getElem?_eq_none (by omega)]
      exact .inr VR.undef
    rcases hfr t htn with h1 | h1
    · exact .inl h1
    · rcases hat.tm.get t with h3 | h3
      · left
        rw [h3] at h1
        generalize s2.get t = u at h1
        unfold anyV at h1 ⊢
        cases h1 with
        | atom h => rfl
        | iface ht h4 =>
          rename_i v
          cases h4 with
          | atom h => rfl
          | tuple h5 =>
            rename_i xs
            have : xs.toList = [] := by
              generalize xs.toList = l at h5
              cases h5; rfl
            have : xs = #[] := by apply Array.ext'; simpa using this
            rw [this]
      · exact .inr (h1.pull he h3)
  · intro x i o hx ho
    obtain ⟨h1, h3⟩ := hlt x i hx
    cases hl : o.live with
    | false => cases o <;> simp [AObj.live] at hl; trivial
    | true =>
      obtain ⟨o1, q1, _, q3⟩ := hob x o ho hl h1
      exact q3.pull he (hat.hp.obj _ _ _ h3 q1)
  · intro x x' i i' o o' hx hx' ho ho' hl hl' hb
    obtain ⟨h1, h3⟩ := hlt x i hx
    obtain ⟨h1', h3'⟩ := hlt x' i' hx'
    obtain ⟨o1, q1, _, q2⟩ := hob x o ho (AObj.mut_live hl) h1
    obtain ⟨o1', q1', q2', _⟩ := hob x' o' ho' hl' h1'
    exact hinj x x' o o' ho ho' hl hl' (hat.hp.inj _ _ _ _ _ _ h3 h3' q1 q1' (q2.mut hl) q2' hb)
  · intro x i hx
    exact hat.hp.lt _ _ (hlt x i hx).2
  · rw [hdf]
    have hdr := hat.df
    generalize s.df = dl at hdr hdf'
    generalize a.defers = ads at hdr
    induction hdr with
    | nil => exact .nil
    | cons h1 _ ih =>
      refine .cons ?_ (ih fun d hm => hdf' d (List.mem_cons_of_mem _ hm))
      have := hdf' _ List.mem_cons_self
      subst this
      cases h1 with
      | mark r => exact .mark r
  · rw [he x (by omega), hσ x hx]
  · intro x i o hx ho hl e
    obtain ⟨h1, h3⟩ := hlt x i hx
    obtain ⟨o1, q1, q2, _⟩ := hob x o ho hl h1
    exact hf _ _ _ h3 q1 q2 e
  · intro x i o hx ho hl e
    obtain ⟨h1, h3⟩ := hlt x i hx
    obtain ⟨o1, q1, _, q2⟩ := hob x o ho (AObj.mut_live hl) h1
    exact hf _ _ _ h3 q1 (q2.mut hl) e

end
end Go.Proofs.YtdocmpnofklaoaaGreatDoor.Ev

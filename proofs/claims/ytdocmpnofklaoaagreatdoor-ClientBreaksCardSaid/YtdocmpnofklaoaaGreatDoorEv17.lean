/- An open order: each operation keeps the invariant; the statement. -/
import Derived.Test.YtdocmpnofklaoaaGreatDoorEv16
namespace Go.Proofs.YtdocmpnofklaoaaGreatDoor.Ev
open Go
set_option linter.unusedSimpArgs false

section
variable {P : Program} {ih : Ih} {ops : Array Oper} {S : Nat → Fr} {Hh : Nat → H} {V : Nat → Value} {D : List Deferred}
variable {ρ0 ρ ρ' : Rho} {a : Act} {w0 w w' : World} {L : Nat → Prop} {q : Nat}

theorem sub_back {h : H} (E : Ext ρ h w ρ' h w') {x : Nat} {i : BI} (hx : ρ' x = some i) : ρ x = some i := by
  cases h1 : ρ x with
  | none => have := E.dom x h1 (by rw [hx]; rfl); omega
  | some j => have := E.sub x j h1; rw [hx] at this; simpa using this.symm

/-- An operation that lays nothing and acts on nothing. -/
theorem Inv.same (R : Run P ih ops S Hh V) (I : Inv P ops S Hh V ρ0 w0 D L q ρ a w) {i : Nat} {o : Oper} (ho : ops[i]? = some o) (hn : ¬ L i) (hr : ∀ e ∈ (bnd o), L e.on)
    (hne : ¬ eff P ops S i) (hnf : ¬ flo P ops S i) {v' : Value} (hv : VR ρ' (V i) v') (hp : HR ρ' (Hh q).obj w') (E : Ext ρ (Hh q) w ρ' (Hh q) w') :
    Inv P ops S Hh V ρ0 w0 D (fun k => L k ∨ k = i) q ρ' (a.put o.dst v') w' := by
  obtain ⟨f1, f2, f3⟩ := I.frame R ho hn E.sub hv
  refine ⟨f1, f2, f3, I.qle, I.qeff, fun j hj hej => ⟨fun h => ?_, fun h => .inl ((I.effs j hj hej).2 h)⟩, hp, fun j hj x x1 x2 hx => ?_, fun j hj hf hl hq => ?_, fun j k bj bk hj hk hfj hfk hlj hlk hqj hqk hbj hbk hbb => ?_,
    fun j hj hf hl => I.late j hj hf (fun h => hl (.inl h)), fun j p hp' hl e he => ?_, I.sub.trans E.sub, fun x h1 h2 => ?_, fun b hb hf => ?_, fun b hb hf => ?_, Nat.le_trans I.grow E.size, I.absf, I.env.trans E.env, I.dr⟩
  · rcases h with h | rfl
    · exact (I.effs j hj hej).1 h
    · exact absurd hej hne
  · obtain ⟨y, hy⟩ := Option.isSome_iff_exists.1 hx
    exact .inl (I.dom j hj x x1 x2 (by rw [sub_back E hy]; rfl))
  · rcases hl with hl | rfl
    · obtain ⟨bi, ob, e1, e2, e3, e4⟩ := I.early j hj hf hl hq
      obtain ⟨k1, k2⟩ := E.keep bi.b (I.hp.lt _ _ e1) e4
      exact ⟨bi, ob, E.sub _ _ e1, e2, by rw [k1]; exact e3.mono E.sub, k2⟩
    · exact absurd hf hnf
  · have hlj' : L j := hlj.resolve_right (fun e => hnf (e ▸ hfj))
    have hlk' : L k := hlk.resolve_right (fun e => hnf (e ▸ hfk))
    exact I.apart j k bj bk hj hk hfj hfk hlj' hlk' hqj hqk (sub_back E hbj) (sub_back E hbk) hbb
  · rcases hl with hl | rfl
    · exact .inl (I.down j p hp' hl e he)
    · rw [ho] at hp'; simp at hp'; subst hp'; exact .inl (hr e he)
  · obtain ⟨y, hy⟩ := Option.isSome_iff_exists.1 h2
    exact I.dom0 x h1 (by rw [sub_back E hy]; rfl)
  · obtain ⟨k1, k2, k3⟩ := I.keep b hb hf
    obtain ⟨k4, k5⟩ := E.keep b (Nat.lt_of_lt_of_le hb I.grow) k2
    refine ⟨k4.trans k1, k5, fun j bj hj hfj hlj hqj hbj => ?_⟩
    exact k3 j bj hj hfj (hlj.resolve_right (fun e => hnf (e ▸ hfj))) hqj (sub_back E hbj)
  · obtain ⟨k1, k2, k3⟩ := I.keepM b hb hf
    obtain ⟨k4, k5⟩ := E.keepM b (Nat.lt_of_lt_of_le hb I.grow) k2
    refine ⟨k4.trans k1, k5, fun j bj hj hfj hlj hqj hbj => ?_⟩
    exact k3 j bj hj hfj (hlj.resolve_right (fun e => hnf (e ▸ hfj))) hqj (sub_back E hbj)

theorem HR.push {g : Nat → Option AObj} {x N : Nat} {o' : Obj} (hg : HR ρ g w) (hn : ρ x = none) (hh : w'.heap = w.heap.push o')
    (ho : ∀ ob, g x = some ob → OR (Upd ρ x ⟨w.heap.size, 0, N⟩) ⟨w.heap.size, 0, N⟩ ob (some o')) : HR (Upd ρ x ⟨w.heap.size, 0, N⟩) g w' := by
  have hs := Upd.sub (ρ := ρ) ⟨w.heap.size, 0, N⟩ hn
  have hold : ∀ a i, Upd ρ x ⟨w.heap.size, 0, N⟩ a = some i → a ≠ x → ρ a = some i := by
    intro a i h1 h2; simpa [Upd, h2] using h1
  have hnew : ∀ i, Upd ρ x ⟨w.heap.size, 0, N⟩ x = some i → i = ⟨w.heap.size, 0, N⟩ := by
    intro i h1; rw [Upd.same] at h1; simpa using h1.symm
  have hp : ∀ b, b < w.heap.size → w'.heap[b]? = w.heap[b]? := by
    intro b hb; rw [hh, Array.getElem?_push_lt hb, Array.getElem?_eq_getElem hb]
  refine ⟨fun a i oo hi hoo => ?_, fun a a' i1 i2 o1 o2 h1 h2 h3 h4 h5 h6 h7 => ?_, fun a i hi => ?_⟩
  · by_cases e : a = x
    · subst e; obtain rfl := hnew i hi; rw [hh]; simpa using ho oo hoo
    · have hi' := hold a i hi e
      rw [hp i.b (hg.lt a i hi')]
      exact (hg.obj a i oo hi' hoo).mono hs
  · by_cases e : a = x <;> by_cases e' : a' = x
    · rw [e, e']
    · subst e; obtain rfl := hnew i1 h1
      have := hg.lt a' i2 (hold a' i2 h2 e')
      dsimp only at h7; omega
    · subst e'; obtain rfl := hnew i2 h2
      have := hg.lt a i1 (hold a i1 h1 e)
      dsimp only at h7; omega
    · exact hg.inj a a' i1 i2 o1 o2 (hold a i1 h1 e) (hold a' i2 h2 e') h3 h4 h5 h6 h7
  · by_cases e : a = x
    · subst e; obtain rfl := hnew i hi; rw [hh]; simp
    · have := hg.lt a i (hold a i hi e); rw [hh]; simp; omega

/-- An operation that lays an object. -/
theorem Inv.lays (R : Run P ih ops S Hh V) (I : Inv P ops S Hh V ρ0 w0 D L q ρ a w) {i : Nat} {o : Oper} (ho : ops[i]? = some o) (hn : ¬ L i) (hr : ∀ e ∈ (bnd o), L e.on)
    (hf : flo P ops S i) {v' : Value} {o' : Obj} {N : Nat} {ob : AObj} (hob : (Hh (i + 1)).obj (Hh i).next = some ob) (hhe : w'.heap = w.heap.push o' ∧ Env w w')
    (hv : VR (Upd ρ (Hh i).next ⟨w.heap.size, 0, N⟩) (V i) v') (hor : OR (Upd ρ (Hh i).next ⟨w.heap.size, 0, N⟩) ⟨w.heap.size, 0, N⟩ ob (some o')) :
    Inv P ops S Hh V ρ0 w0 D (fun k => L k ∨ k = i) q (Upd ρ (Hh i).next ⟨w.heap.size, 0, N⟩) (a.put o.dst v') w' := by
  obtain ⟨hh, henv⟩ := hhe
  have hi : i < ops.size := (Array.getElem?_eq_some_iff.1 ho).1
  have hne : ¬ eff P ops S i := not_eff_flo hf
  have hnx := R.laid_next hf
  have hnone : ρ (Hh i).next = none := by
    cases hx : ρ (Hh i).next with
    | none => rfl
    | some y => exact absurd (I.dom i hi _ (Nat.le_refl _) (by omega) (by rw [hx]; rfl)) hn
  have hs := Upd.sub (ρ := ρ) ⟨w.heap.size, 0, N⟩ hnone
  obtain ⟨f1, f2, f3⟩ := I.frame R ho hn hs hv
  have hold : ∀ x y, Upd ρ (Hh i).next ⟨w.heap.size, 0, N⟩ x = some y → x ≠ (Hh i).next → ρ x = some y := by
    intro x y h1 h2; simpa [Upd, h2] using h1
  have hnew : ∀ y, Upd ρ (Hh i).next ⟨w.heap.size, 0, N⟩ (Hh i).next = some y → y = ⟨w.heap.size, 0, N⟩ := by
    intro y h1; rw [Upd.same] at h1; simpa using h1.symm
  have hp : ∀ b, b < w.heap.size → w'.heap[b]? = w.heap[b]? := by
    intro b hb; rw [hh, Array.getElem?_push_lt hb, Array.getElem?_eq_getElem hb]
  have hgq : ∀ ob', (Hh q).obj (Hh i).next = some ob' → i < q ∧ ob' = ob := by
    intro ob' h1
    have h2 := (R.wfs I.qle).obj_lt h1
    have hiq : i < q := by
      rcases Nat.lt_or_ge i q with h | h
      · exact h
      · have := R.next_le h (Nat.le_of_lt hi); omega
    refine ⟨hiq, ?_⟩
    rw [H.obj_eq (I.late i hiq hf hn), hob] at h1; simpa using h1.symm
  -- another place that was laid
  have hids : ∀ j, j < ops.size → flo P ops S j → j ≠ i → (Hh j).next ≠ (Hh i).next := by
    intro j hj hfj hji heq
    have h1 := R.laid_next hfj
    rcases Nat.lt_or_ge j i with h | h
    · have := R.next_le (show j + 1 ≤ i by omega) (Nat.le_of_lt hi); omega
    · have := R.next_le (show i + 1 ≤ j by omega) (Nat.le_of_lt hj); omega
  refine ⟨f1, f2, f3, I.qle, I.qeff, fun j hj hej => ⟨fun h => ?_, fun h => .inl ((I.effs j hj hej).2 h)⟩, I.hp.push hnone hh (fun ob' h => by rw [(hgq ob' h).2]; exact hor), fun j hj x x1 x2 hx => ?_, fun j hj hfj hl hq => ?_, fun j k bj bk hj hk hfj hfk hlj hlk hqj hqk hbj hbk hbb => ?_,
    fun j hj hfj hl => I.late j hj hfj (fun h => hl (.inl h)), fun j p hp' hl e he => ?_, I.sub.trans hs, fun x h1 h2 => ?_, fun b hb hfb => ?_, fun b hb hfb => ?_, by rw [hh]; simp; exact Nat.le_succ_of_le I.grow, I.absf, I.env.trans henv, I.dr⟩
  · rcases h with h | rfl
    · exact (I.effs j hj hej).1 h
    · exact absurd hej hne
  · by_cases e : x = (Hh i).next
    · right
      subst e
      rcases Nat.lt_trichotomy j i with h | h | h
      · have := R.next_le (show j + 1 ≤ i by omega) (Nat.le_of_lt hi); omega
      · exact h
      · have := R.next_le (show i + 1 ≤ j by omega) (Nat.le_of_lt hj); omega
    · obtain ⟨y, hy⟩ := Option.isSome_iff_exists.1 hx
      exact .inl (I.dom j hj x x1 x2 (by rw [hold x y hy e]; rfl))
  · rcases hl with hl | rfl
    · obtain ⟨bi, ob', e1, e2, e3, e4⟩ := I.early j hj hfj hl hq
      have hlt := I.hp.lt _ _ e1
      refine ⟨bi, ob', hs _ _ e1, e2, by rw [hp _ hlt]; exact e3.mono hs, fun x y oo hy hoo hlo => ?_⟩
      by_cases e : x = (Hh i).next
      · subst e; obtain rfl := hnew y hy; dsimp only; omega
      · exact e4 x y oo (hold x y hy e) hoo hlo
    · refine ⟨⟨w.heap.size, 0, N⟩, ob, Upd.same _ _ _, hob, by rw [hh]; simpa using hor, fun x y oo hy hoo hlo => ?_⟩
      by_cases e : x = (Hh j).next
      · subst e; have := (hgq oo hoo).1; omega
      · have := I.hp.lt x y (hold x y hy e); dsimp only; omega
  · by_cases ej : j = i <;> by_cases ek : k = i
    · rw [ej, ek]
    · subst ej
      have hlk' : L k := hlk.resolve_right ek
      obtain rfl := hnew bj hbj
      have := I.hp.lt _ _ (hold _ _ hbk (hids k hk hfk ek))
      dsimp only at hbb; omega
    · subst ek
      obtain rfl := hnew bk hbk
      have := I.hp.lt _ _ (hold _ _ hbj (hids j hj hfj ej))
      dsimp only at hbb; omega
    · exact I.apart j k bj bk hj hk hfj hfk (hlj.resolve_right ej) (hlk.resolve_right ek) hqj hqk (hold _ _ hbj (hids j hj hfj ej)) (hold _ _ hbk (hids k hk hfk ek)) hbb
  · rcases hl with hl | rfl
    · exact .inl (I.down j p hp' hl e he)
    · rw [ho] at hp'; simp at hp'; subst hp'; exact .inl (hr e he)
  · by_cases e : x = (Hh i).next
    · subst e
      exact ⟨R.next_le (Nat.zero_le _) (Nat.le_of_lt hi), Nat.lt_of_lt_of_le (by omega) (R.next_le (show i + 1 ≤ ops.size by omega) (Nat.le_refl _))⟩
    · obtain ⟨y, hy⟩ := Option.isSome_iff_exists.1 h2
      exact I.dom0 x h1 (by rw [hold x y hy e]; rfl)
  · obtain ⟨k1, k2, k3⟩ := I.keep b hb hfb
    have hbw := Nat.lt_of_lt_of_le hb I.grow
    refine ⟨(hp b hbw).trans k1, fun x y oo hy hoo hlo => ?_, fun j bj hj hfj hlj hqj hbj => ?_⟩
    · by_cases e : x = (Hh i).next
      · subst e; obtain rfl := hnew y hy; dsimp only; omega
      · exact k2 x y oo (hold x y hy e) hoo hlo
    · by_cases ej : j = i
      · subst ej; obtain rfl := hnew bj hbj; dsimp only; omega
      · exact k3 j bj hj hfj (hlj.resolve_right ej) hqj (hold _ _ hbj (hids j hj hfj ej))
  · obtain ⟨k1, k2, k3⟩ := I.keepM b hb hfb
    have hbw := Nat.lt_of_lt_of_le hb I.grow
    refine ⟨(hp b hbw).trans k1, fun x y oo hy hoo hlo => ?_, fun j bj hj hfj hlj hqj hbj => ?_⟩
    · by_cases e : x = (Hh i).next
      · subst e; obtain rfl := hnew y hy; dsimp only; omega
      · exact k2 x y oo (hold x y hy e) hoo hlo
    · by_cases ej : j = i
      · subst ej; obtain rfl := hnew bj hbj; dsimp only; omega
      · exact k3 j bj hj hfj (hlj.resolve_right ej) hqj (hold _ _ hbj (hids j hj hfj ej))

/-- An operation that acts: the next one of those. -/
theorem Inv.acts (R : Run P ih ops S Hh V) (I : Inv P ops S Hh V ρ0 w0 D L q ρ a w) {o : Oper} (ho : ops[q]? = some o) (hn : ¬ L q) (hr : ∀ e ∈ (bnd o), L e.on)
    {v' : Value} (hv : VR ρ' (V q) v') (hp : HR ρ' (Hh (q + 1)).obj w') (E : Ext ρ (Hh q) w ρ' (Hh (q + 1)) w') :
    ∃ q', Inv P ops S Hh V ρ0 w0 D (fun k => L k ∨ k = q) q' ρ' (a.put o.dst v') w' := by
  have hq : q < ops.size := (Array.getElem?_eq_some_iff.1 ho).1
  obtain ⟨f1, f2, f3⟩ := I.frame R ho hn E.sub hv
  obtain ⟨q', g1, g2, g3, g4⟩ := next_eff (P := P) (ops := ops) (S := S) ops.size (q + 1) hq
  have heq := I.qeff hq
  -- of those laid early nothing has turned
  have hearly : ∀ j, j < ops.size → flo P ops S j → L j → q ≤ j → ∃ bi ob, ρ (Hh j).next = some bi ∧ ρ' (Hh j).next = some bi ∧ (Hh (j + 1)).obj (Hh j).next = some ob ∧ OR ρ' bi ob w'.heap[bi.b]? ∧ Free ρ' (Hh (q + 1)).obj bi.b := by
    intro j hj hfj hl hqj
    obtain ⟨bi, ob, e1, e2, e3, e4⟩ := I.early j hj hfj hl hqj
    obtain ⟨k1, k2⟩ := E.keep bi.b (I.hp.lt _ _ e1) e4
    exact ⟨bi, ob, e1, E.sub _ _ e1, e2, by rw [k1]; exact e3.mono E.sub, k2⟩
  have hnone : ∀ j, j < ops.size → flo P ops S j → ¬ L j → q ≤ j → ρ' (Hh j).next = none := by
    intro j hj hfj hl hqj
    have hjq : j ≠ q := fun e => not_eff_flo hfj (e ▸ heq)
    cases hx : ρ' (Hh j).next with
    | none => rfl
    | some y =>
      have h1 := R.laid_next hfj
      cases hy : ρ (Hh j).next with
      | some z => exact absurd (I.dom j hj _ (Nat.le_refl _) (by omega) (by rw [hy]; rfl)) hl
      | none =>
        have := (E.dom _ hy (by rw [hx]; rfl)).2
        have := R.next_le (show q + 1 ≤ j by omega) (Nat.le_of_lt hj); omega
  have freeChain : ∀ k b, q + 1 + k ≤ q' → Free ρ' (Hh (q + 1)).obj b → (∀ j bj, q ≤ j → j < q + 1 + k → flo P ops S j → L j → ρ' (Hh j).next = some bj → bj.b ≠ b) → Free ρ' (Hh (q + 1 + k)).obj b := by
    intro k
    induction k with
    | zero => intro b _ hf _; exact hf
    | succ k ihk =>
      intro b hk hf hj
      have h0 := ihk b (by omega) hf (fun j bj h1 h2 => hj j bj h1 (by omega))
      by_cases hfk : flo P ops S (q + 1 + k)
      · obtain ⟨_, ob, _, _, _, hh⟩ := R.laid hfk
        rw [show q + 1 + (k + 1) = (q + 1 + k) + 1 by omega, hh]
        intro x y oo hy hoo hlo
        rw [H.obj_new] at hoo
        by_cases e : x = (Hh (q + 1 + k)).next
        · subst e
          by_cases hl : L (q + 1 + k)
          · exact hj _ y (by omega) (by omega) hfk hl hy
          · rw [hnone _ (by omega) hfk hl (by omega)] at hy; simp at hy
        · rw [if_neg e] at hoo; exact h0 x y oo hy hoo hlo
      · rw [show q + 1 + (k + 1) = (q + 1 + k) + 1 by omega, R.still (by omega) (g4 _ (by omega) (by omega)) hfk]
        exact h0
  have freeChainM : ∀ k b, q + 1 + k ≤ q' → FreeM ρ' (Hh (q + 1)).obj b → (∀ j bj, q ≤ j → j < q + 1 + k → flo P ops S j → L j → ρ' (Hh j).next = some bj → bj.b ≠ b) → FreeM ρ' (Hh (q + 1 + k)).obj b := by
    intro k
    induction k with
    | zero => intro b _ hf _; exact hf
    | succ k ihk =>
      intro b hk hf hj
      have h0 := ihk b (by omega) hf (fun j bj h1 h2 => hj j bj h1 (by omega))
      by_cases hfk : flo P ops S (q + 1 + k)
      · obtain ⟨_, ob, _, _, _, hh⟩ := R.laid hfk
        rw [show q + 1 + (k + 1) = (q + 1 + k) + 1 by omega, hh]
        intro x y oo hy hoo hlo
        rw [H.obj_new] at hoo
        by_cases e : x = (Hh (q + 1 + k)).next
        · subst e
          by_cases hl : L (q + 1 + k)
          · exact hj _ y (by omega) (by omega) hfk hl hy
          · rw [hnone _ (by omega) hfk hl (by omega)] at hy; simp at hy
        · rw [if_neg e] at hoo; exact h0 x y oo hy hoo hlo
      · rw [show q + 1 + (k + 1) = (q + 1 + k) + 1 by omega, R.still (by omega) (g4 _ (by omega) (by omega)) hfk]
        exact h0
  have hrChain : ∀ k, q + 1 + k ≤ q' → HR ρ' (Hh (q + 1 + k)).obj w' := by
    intro k
    induction k with
    | zero => intro _; exact hp
    | succ k ihk =>
      intro hk
      have h0 := ihk (by omega)
      by_cases hfk : flo P ops S (q + 1 + k)
      · obtain ⟨_, ob0, _, _, _, hh⟩ := R.laid hfk
        by_cases hl : L (q + 1 + k)
        · obtain ⟨bi, ob, e0, e1, e2, e3, e4⟩ := hearly _ (by omega) hfk hl (by omega)
          have hfree : Free ρ' (Hh (q + 1 + k)).obj bi.b := freeChain k bi.b (by omega) e4 (fun j bj h1 h2 hfj hlj hbj hbb => by
            obtain ⟨bi', _, e0', e1', _⟩ := hearly j (by omega) hfj hlj h1
            rw [e1'] at hbj; simp at hbj; subst hbj
            have := I.apart j (q + 1 + k) bi' bi (by omega) (by omega) hfj hfk hlj hl h1 (by omega) e0' e0 hbb
            omega)
          have hob : ob0 = ob := by rw [hh, H.obj_new] at e2; simpa using e2
          subst hob
          rw [show q + 1 + (k + 1) = (q + 1 + k) + 1 by omega, hh]
          refine ⟨fun x y oo hy hoo => ?_, fun x x' y y' o1 o2 h1 h2 h3 h4 h5 h6 h7 => ?_, h0.lt⟩
          · rw [H.obj_new] at hoo
            by_cases e : x = (Hh (q + 1 + k)).next
            · subst e; rw [if_pos rfl] at hoo; simp at hoo; subst hoo
              rw [e1] at hy; simp at hy; subst hy; exact e3
            · rw [if_neg e] at hoo; exact h0.obj x y oo hy hoo
          · rw [H.obj_new] at h3 h4
            by_cases e : x = (Hh (q + 1 + k)).next <;> by_cases e' : x' = (Hh (q + 1 + k)).next
            · rw [e, e']
            · subst e; rw [e1] at h1; simp at h1; subst h1
              rw [if_neg e'] at h4
              exact absurd h7.symm (hfree x' y' o2 h2 h4 h6)
            · subst e'; rw [e1] at h2; simp at h2; subst h2
              rw [if_neg e] at h3
              exact absurd h7 (hfree x y o1 h1 h3 (AObj.mut_live h5))
            · rw [if_neg e] at h3; rw [if_neg e'] at h4
              exact h0.inj x x' y y' o1 o2 h1 h2 h3 h4 h5 h6 h7
        · have hx := hnone _ (by omega) hfk hl (by omega)
          rw [show q + 1 + (k + 1) = (q + 1 + k) + 1 by omega, hh]
          refine h0.congr (fun x oo hxs hoo => ?_)
          rw [H.obj_new] at hoo
          by_cases e : x = (Hh (q + 1 + k)).next
          · subst e; rw [hx] at hxs; simp at hxs
          · rwa [if_neg e] at hoo
      · rw [show q + 1 + (k + 1) = (q + 1 + k) + 1 by omega, R.still (by omega) (g4 _ (by omega) (by omega)) hfk]
        exact h0
  have hq' : q + 1 + (q' - (q + 1)) = q' := by omega
  have hback : ∀ j bi, j < ops.size → flo P ops S j → L j → q ≤ j → ρ' (Hh j).next = some bi → ρ (Hh j).next = some bi := by
    intro j bi hj hfj hl hqj hb
    obtain ⟨bi', _, e0, e1, _⟩ := hearly j hj hfj hl hqj
    rw [e1] at hb; simp at hb; subst hb; exact e0
  have hlq : ∀ j, flo P ops S j → (L j ∨ j = q) → L j := fun j hfj h => h.resolve_right (fun e => not_eff_flo hfj (e ▸ heq))
  refine ⟨q', ⟨f1, f2, f3, g2, g3, fun j hj hej => ?_, by have := hrChain (q' - (q + 1)) (by omega); rwa [hq'] at this, fun j hj x x1 x2 hx => ?_, fun j hj hfj hl hqj => ?_, fun j k bj bk hj hk hfj hfk hlj hlk hqj hqk hbj hbk hbb => ?_,
    fun j hj hfj hl => ?_, fun j p hp' hl e he => ?_, I.sub.trans E.sub, fun x h1 h2 => ?_, fun b hb hfb => ?_, fun b hb hfb => ?_, Nat.le_trans I.grow E.size, fun x hx h0 => ?_, I.env.trans E.env, I.dr⟩⟩
  · constructor
    · rintro (h | rfl)
      · have := (I.effs j hj hej).1 h; omega
      · omega
    · intro h
      rcases Nat.lt_trichotomy j q with h1 | h1 | h1
      · exact .inl ((I.effs j hj hej).2 h1)
      · exact .inr h1
      · exact absurd hej (g4 j (by omega) h)
  · obtain ⟨y, hy⟩ := Option.isSome_iff_exists.1 hx
    cases hz : ρ x with
    | some z => exact .inl (I.dom j hj x x1 x2 (by rw [hz]; rfl))
    | none =>
      right
      obtain ⟨d1, d2⟩ := E.dom x hz hx
      rcases Nat.lt_trichotomy j q with h | h | h
      · have := R.next_le (show j + 1 ≤ q by omega) (Nat.le_of_lt hq); omega
      · exact h
      · have := R.next_le (show q + 1 ≤ j by omega) (Nat.le_of_lt hj); omega
  · have hl' := hlq j hfj hl
    obtain ⟨bi, ob, e0, e1, e2, e3, e4⟩ := hearly j hj hfj hl' (by omega)
    refine ⟨bi, ob, e1, e2, e3, ?_⟩
    have := freeChain (q' - (q + 1)) bi.b (by omega) e4 (fun k bk h1 h2 hfk hlk hbk hbb => by
      have := I.apart k j bk bi (by omega) hj hfk hfj hlk hl' h1 (by omega) (hback k bk (by omega) hfk hlk h1 hbk) e0 hbb
      omega)
    rwa [hq'] at this
  · have hlj' := hlq j hfj hlj
    have hlk' := hlq k hfk hlk
    exact I.apart j k bj bk hj hk hfj hfk hlj' hlk' (by omega) (by omega) (hback j bj hj hfj hlj' (by omega) hbj) (hback k bk hk hfk hlk' (by omega) hbk) hbb
  · have hl' : ¬ L j := fun h => hl (.inl h)
    have hjq : j ≠ q := fun e => hl (.inr e)
    have hnx := R.laid_next hfj
    rcases Nat.lt_or_ge j q with h | h
    · have h1 := I.late j h hfj hl'
      have hx : (Hh j).next < (Hh q).next := by have := R.next_le (show j + 1 ≤ q by omega) (Nat.le_of_lt hq); omega
      have hz : ρ (Hh j).next = none := by
        cases hz : ρ (Hh j).next with
        | none => rfl
        | some y => exact absurd (I.dom j (by omega) _ (Nat.le_refl _) (by omega) (by rw [hz]; rfl)) hl'
      rw [R.calm' g1 g2 g4 (Nat.lt_of_lt_of_le hx (R.next_le (Nat.le_succ q) hq)), E.absf _ hx hz]; exact h1
    · exact R.calm' (by omega) g2 (fun k a b => g4 k (by omega) b) (by omega)
  · rcases hl with hl | rfl
    · exact .inl (I.down j p hp' hl e he)
    · rw [ho] at hp'; simp at hp'; subst hp'; exact .inl (hr e he)
  · cases hz : ρ x with
    | some z => exact I.dom0 x h1 (by rw [hz]; rfl)
    | none =>
      obtain ⟨d1, d2⟩ := E.dom x hz h2
      exact ⟨Nat.le_trans (R.next_le (Nat.zero_le _) (Nat.le_of_lt hq)) d1, Nat.lt_of_lt_of_le d2 (R.next_le hq (Nat.le_refl _))⟩
  · obtain ⟨k1, k2, k3⟩ := I.keep b hb hfb
    obtain ⟨k4, k5⟩ := E.keep b (Nat.lt_of_lt_of_le hb I.grow) k2
    have hne : ∀ j bj, j < ops.size → q ≤ j → flo P ops S j → L j → ρ' (Hh j).next = some bj → bj.b ≠ b := fun j bj hj h1 hfj hlj hbj => k3 j bj hj hfj hlj h1 (hback j bj hj hfj hlj h1 hbj)
    refine ⟨k4.trans k1, ?_, fun j bj hj hfj hlj hqj hbj => hne j bj hj (by omega) hfj (hlq j hfj hlj) hbj⟩
    have := freeChain (q' - (q + 1)) b (by omega) k5 (fun j bj h1 h2 hfj hlj hbj => hne j bj (by omega) h1 hfj hlj hbj)
    rwa [hq'] at this
  · obtain ⟨k1, k2, k3⟩ := I.keepM b hb hfb
    obtain ⟨k4, k5⟩ := E.keepM b (Nat.lt_of_lt_of_le hb I.grow) k2
    have hne : ∀ j bj, j < ops.size → q ≤ j → flo P ops S j → L j → ρ' (Hh j).next = some bj → bj.b ≠ b := fun j bj hj h1 hfj hlj hbj => k3 j bj hj hfj hlj h1 (hback j bj hj hfj hlj h1 hbj)
    refine ⟨k4.trans k1, ?_, fun j bj hj hfj hlj hqj hbj => hne j bj hj (by omega) hfj (hlq j hfj hlj) hbj⟩
    have := freeChainM (q' - (q + 1)) b (by omega) k5 (fun j bj h1 h2 hfj hlj hbj => hne j bj (by omega) h1 hfj hlj hbj)
    rwa [hq'] at this
  · have hxq : x < (Hh q).next := Nat.lt_of_lt_of_le hx (R.next_le (Nat.zero_le _) (Nat.le_of_lt hq))
    have hz : ρ x = none := by
      cases hz : ρ x with
      | none => rfl
      | some y => have := (I.dom0 x h0 (by rw [hz]; rfl)).1; omega
    rw [R.calm' g1 g2 g4 (Nat.lt_of_lt_of_le hxq (R.next_le (Nat.le_succ q) hq)), E.absf _ hxq hz]
    exact I.absf x hx h0

end
end Go.Proofs.YtdocmpnofklaoaaGreatDoor.Ev

/- The evaluator is right: code. -/
import Derived.Test.YtdocmpnofklaoaaGreatDoorEv17
namespace Go.Proofs.YtdocmpnofklaoaaGreatDoor.Ev
open Go
set_option linter.unusedSimpArgs false

section
variable {P : Program} {ih : Ih} {ops : Array Oper} {S : Nat → Fr} {Hh : Nat → H} {V : Nat → Value} {D : List Deferred}
variable {ρ0 ρ : Rho} {a : Act} {w0 w : World} {L : Nat → Prop} {q : Nat}

theorem VR.undef' {v : Value} (h : VR ρ v Go.undef) : v = Go.undef := by
  unfold Go.undef at h
  cases h with
  | atom h => rfl
  | raw h _ => simp [Value.oneCell'] at h
  | tuple h =>
    rename_i xs
    have : xs.toList = [] := by
      generalize hx : xs.toList = l at h
      cases h; rfl
    have : xs = #[] := by apply Array.ext'; simpa using this
    rw [this]; rfl

/-- A block that a reading reads is, where it may be read, what it was. -/
theorem Inv.reads (R : Run P ih ops S Hh V) (I : Inv P ops S Hh V ρ0 w0 D L q ρ a w) {i : Nat} {o : Oper} (ho : ops[i]? = some o) (hn : ¬ L i) (hr : ∀ e ∈ (bnd o), L e.on)
    (hc : cls P o.op = 2) {b : Nat} (hb : rdBlk (S i) o.op = some b) (hh : (Hh i).obj b ≠ none) : (Hh q).obj b = (Hh i).obj b := by
  have hi : i < ops.size := (Array.getElem?_eq_some_iff.1 ho).1
  have hlt := fun i o h e he => (R.edge i o h e he).1
  have hbi : b < (Hh i).next := by
    cases h1 : (Hh i).obj b with
    | none => exact absurd h1 hh
    | some oo => exact (R.wfs (Nat.le_of_lt hi)).obj_lt h1
  -- the last effect between
  rcases Nat.lt_or_ge i q with hiq | hiq
  · -- effects between i and q
    by_cases hex : ∃ e, i < e ∧ e < q ∧ eff P ops S e
    · obtain ⟨e0, h1, h2, h3⟩ := hex
      have hmax : ∃ e, i < e ∧ e < q ∧ eff P ops S e ∧ ∀ j, e < j → j < q → ¬ eff P ops S j := by
        have : ∀ d, ∀ e, i < e → e < q → eff P ops S e → q ≤ e + d → ∃ e, i < e ∧ e < q ∧ eff P ops S e ∧ ∀ j, e < j → j < q → ¬ eff P ops S j := by
          intro d
          induction d with
          | zero => intro e _ h _ h'; omega
          | succ d ihd =>
            intro e he1 he2 he3 hd
            by_cases hne : ∃ j, e < j ∧ j < q ∧ eff P ops S j
            · obtain ⟨j, j1, j2, j3⟩ := hne
              exact ihd j (by omega) j2 j3 (by omega)
            · exact ⟨e, he1, he2, he3, fun j a b c => hne ⟨j, a, b, c⟩⟩
        exact this q e0 h1 h2 h3 (by omega)
      obtain ⟨e, h1, h2, h3, h4⟩ := hmax
      have heL : L e := (I.effs e (by have := I.qle; omega) h3).2 h2
      obtain ⟨p, hp, _, hpc⟩ := h3
      have hun : ((befs ops).getD e 0).testBit i = false := by
        cases hb' : ((befs ops).getD e 0).testBit i with
        | false => rfl
        | true => exact absurd (befs_closed hlt I.down (e + 1) e p (Nat.lt_succ_self _) hp (I.down e p hp heL) i hb') hn
      have hun2 : ((befs ops).getD i 0).testBit e = false := by
        cases hb' : ((befs ops).getD i 0).testBit e with
        | false => rfl
        | true => have := befs_lt hlt ho hb'; omega
      rcases R.reads i e o p ho hp hc hpc with h5 | h5 | h5
      · rw [hun] at h5; simp at h5
      · rw [hun2] at h5; simp at h5
      · obtain ⟨x, x1, x2⟩ := h5 b hb
        rw [if_pos h1] at x2
        have hqle := I.qle
        have hce : (Hh (e + 1)).objs.get b = (Hh i).objs.get b := by
          rcases (R.exts (e + 1) (by omega) i (by omega)).vers b hbi with h6 | ⟨c, h6, h7⟩
          · exact h6
          · simp only [verAt, h6] at x2
            simp at x2
            unfold verAt at x1
            cases hg : (Hh i).objs.get b with
            | none => rw [hg] at x1; simp at x1
            | some c' => rw [hg] at x1; simp at x1; have := (R.wfs (Nat.le_of_lt hi)).ver b c' hg; omega
        refine H.obj_eq ((R.calm' (show e + 1 ≤ q by omega) hqle (fun k k1 k2 => h4 k (by omega) k2) ?_).trans hce)
        exact Nat.lt_of_lt_of_le hbi (R.next_le (show i ≤ e + 1 by omega) (by omega))
    · exact H.obj_eq (R.calm' (Nat.le_of_lt hiq) I.qle (fun k k1 k2 hk => by
        by_cases e : k = i
        · subst e
          obtain ⟨o', ho', _, hc'⟩ := hk
          rw [ho] at ho'; simp at ho'; subst ho'; omega
        · exact hex ⟨k, by omega, k2, hk⟩) hbi)
  · by_cases hiq' : i = q
    · rw [hiq']
    · have hq : q < ops.size := by omega
      obtain ⟨p, hp, hpw, hpc⟩ := I.qeff hq
      have hnq : ¬ L q := fun h => by have := (I.effs q hq ⟨p, hp, hpw, hpc⟩).1 h; omega
      have hun : ((befs ops).getD i 0).testBit q = false := by
        cases hb' : ((befs ops).getD i 0).testBit q with
        | false => rfl
        | true => exact absurd (befs_closed hlt I.down (i + 1) i o (Nat.lt_succ_self _) ho hr q hb') hnq
      have hun2 : ((befs ops).getD q 0).testBit i = false := by
        cases hb' : ((befs ops).getD q 0).testBit i with
        | false => rfl
        | true => have := befs_lt hlt hp hb'; omega
      rcases R.reads i q o p ho hp hc hpc with h5 | h5 | h5
      · rw [hun2] at h5; simp at h5
      · rw [hun] at h5; simp at h5
      · obtain ⟨x, x1, x2⟩ := h5 b hb
        rw [if_neg (by omega)] at x2
        unfold verAt at x2
        cases hg : (Hh q).objs.get b with
        | none => rw [hg] at x2; simp at x2
        | some c' =>
          rw [hg] at x2; simp at x2
          have hbq := (R.wfs I.qle).lt b c' hg
          refine (H.obj_eq ?_).symm
          rcases (R.exts i (Nat.le_of_lt hi) q hiq).vers b hbq with h6 | ⟨c, h6, h7⟩
          · exact h6
          · simp only [verAt, h6] at x1
            simp at x1
            have := (R.wfs I.qle).ver b c' hg; omega

theorem execR_some_blk {s : Fr} {g g' : Nat → Option AObj} {op : Op} {v : Value} (h : execR P s g op = some v) (hb : ∀ b, rdBlk s op = some b → g b ≠ none → g' b = g b) : execR P s g' op = some v := by
  -- a block that is not there is not read
  by_cases hx : ∃ b, rdBlk s op = some b ∧ g b = none
  · obtain ⟨b, h1, h2⟩ := hx
    cases op with
    | load t x =>
      simp only [rdBlk] at h1; simp only [execR] at h
      split at h1
      · rename_i c hc
        simp at h1; subst h1
        rw [hc] at h; dsimp only at h
        unfold loadT at h
        simp only [loadN, h2] at h
        rcases cond_or h with ⟨_, h⟩ | ⟨_, h⟩
        · simp at h
        · split at h <;> (try split at h) <;> simp at h
      · simp at h1
    | lookup t x k ok =>
      simp only [rdBlk] at h1; simp only [execR] at h
      split at h1
      · rename_i r hc
        simp at h1; subst h1
        rw [hc] at h
        split at h
        · rename_i hx' _; simp at hx'; subst hx'
          split at h
          · have := (opt_false h).2
            simp [h2] at this
          · simp at h
        · simp at h
      · simp at h1
    | convert t u x =>
      have hc : ∃ a n c, ev s x = some (.slice (some a) n c) ∧ a.block = b := by
        simp only [rdBlk] at h1
        split at h1
        · rename_i a n c hc; simp at h1; exact ⟨a, n, c, hc, h1⟩
        · simp at h1
      obtain ⟨a, n, c, hc, rfl⟩ := hc
      simp only [execR, hc] at h ⊢
      split at h
      · simp at *
      · simp at *
      · rename_i hx'
        simp at hx'; obtain ⟨rfl, rfl, rfl⟩ := hx'
        rw [h2] at h
        split at h
        · rename_i he; simp at he
        · simp at h
      · simp at *
      · rename_i hx'
        simp at hx'; obtain ⟨rfl, rfl, rfl⟩ := hx'
        simp only [loadN, h2] at h
        split at h
        · rename_i he; simp at he
        · simp at h
      · simp at h
    | call c =>
      have hc : ∃ x, c.args[0]? = some x ∧ ev s x = some (.map (some b)) := by
        simp only [rdBlk] at h1
        split at h1
        · rename_i x hx'
          split at h1
          · rename_i r hr; simp at h1; subst h1; exact ⟨x, hx', hr⟩
          · simp at h1
        · simp at h1
      obtain ⟨x, hc1, hc2⟩ := hc
      simp only [execR] at h
      split at h
      · rw [show c.args[0]? = some x from hc1] at h
        split at h
        · rename_i hx'
          simp at hx'; subst hx'
          rw [hc2] at h
          split at h
          · simp at *
          · simp at *
          · simp at *
          · rename_i hx''; simp at hx''; subst hx''; rw [h2] at h; simp at h
          · simp at h
        · simp at h
      · simp at h
    | _ => simp [rdBlk] at h1
  · rw [execR_congr (g := g) (g' := g') (fun b h1 => hb b h1 (fun h2 => hx ⟨b, h1, h2⟩))]; exact h

/-- One operation that lays nothing and acts on nothing, by itself. -/
theorem opV_quiet {all : Array Oper} {s : Fr} {o : Oper} {h : H} {v : Value} (he : opV P ih all o s h = .ok (v, h)) (hat : At ρ s h a w)
    (hk : wantedA all s o = false ∨ cls P o.op = 0 ∨ cls P o.op = 2) {K : Act → World → Prop} {Q : Exit → Act → World → Prop}
    (hK : ∀ ρ' w' v', VR ρ' v v' → HR ρ' h.obj w' → Ext ρ h w ρ' h w' → K (a.put o.dst v') w') :
    if Region.wanted o (yielded all a.tmps) then o.wpIn FW 0 P a w K Q else (∀ f, o.about P w a.eval = some f → FW.fn f) ∧ K (a.put o.dst undef) w := by
  rw [wanted_eq hat.tm (opV_guard he)]
  rcases went he with ⟨hw, hv, _⟩ | ⟨hw, hc, hx, _⟩ | ⟨ob, hw, hc, hx, hh⟩ | ⟨hw, hc, hx, _⟩ | ⟨hw, hc⟩
  · rw [if_neg (by rw [hw]; simp)]
    subst hv
    exact ⟨fun _ _ => trivial, hK ρ w undef VR.undef hat.hp (Ext.refl ρ h w)⟩
  · rw [if_pos hw]
    refine ⟨fun _ _ => trivial, ?_⟩
    show o.uponIn FW 0 P a K Q ((execOp a.eval o).run P w)
    obtain ⟨v', k1, k2⟩ := simP hx hat.tm
    rw [k2 w]
    exact hK ρ w v' k1 hat.hp (Ext.refl ρ h w)
  · rcases hk with h1 | h1 | h1
    · rw [hw] at h1; simp at h1
    · omega
    · omega
  · rw [if_pos hw]
    refine ⟨fun _ _ => trivial, ?_⟩
    show o.uponIn FW 0 P a K Q ((execOp a.eval o).run P w)
    obtain ⟨w', v', k1, k2, k3, k4, k5⟩ := simR hx hat.tm w hat.hp
    rw [k1]
    exact hK ρ w' v' k2 k4 (ext_same k3 k5)
  · rcases hk with h1 | h1 | h1
    · rw [hw] at h1; simp at h1
    · omega
    · omega

/-- One operation that acts, by itself: no fresh number is asked of where it lays none. -/
theorem opV_act (hi : Sound P ih) (hx : IhExt ih) {all : Array Oper} {s : Fr} {o : Oper} {h h' : H} {v : Value} (he : opV P ih all o s h = .ok (v, h')) (hat : At ρ s h a w) (hc : cls P o.op = 3)
    (hdom : ∀ x, h.next ≤ x → x < h'.next → ρ x = none) {K : Act → World → Prop} {Q : Exit → Act → World → Prop}
    (hK : ∀ ρ' w' v', VR ρ' v v' → HR ρ' h'.obj w' → Ext ρ h w ρ' h' w' → K (a.put o.dst v') w') (hw : wantedA all s o = true) :
    if Region.wanted o (yielded all a.tmps) then o.wpIn FW 0 P a w K Q else (∀ f, o.about P w a.eval = some f → FW.fn f) ∧ K (a.put o.dst undef) w := by
  rw [wanted_eq hat.tm (opV_guard he), if_pos hw]
  refine ⟨fun _ _ => trivial, ?_⟩
  show o.uponIn FW 0 P a K Q ((execOp a.eval o).run P w)
  unfold opV at he
  replace he := (exc_false he).2
  rw [hw] at he
  simp only [cond_true] at he
  have hxe : exec P s h o.op = execE P s h o.op := by unfold exec; rw [hc]; rfl
  rw [hxe] at he
  split at he
  · cases he
  · rename_i v1 h1 hex
    cases he
    obtain ⟨ρ', w', v', k1, k2, k3, k4⟩ := simE hex hat.tm hat.hp hat.wf (fun h2 hr hlt => by
      rcases hr with ⟨_, hr⟩ | hr <;> cases hr; exact hdom _ (Nat.le_refl _) hlt)
    rw [k1]
    exact hK ρ' w' v' k2 k3 k4
  · rename_i h1 hex
    cases he
    obtain ⟨ρ', w', k1, k3, k4⟩ := simE hex hat.tm hat.hp hat.wf (fun h2 hr hlt => by
      rcases hr with ⟨_, hr⟩ | hr <;> cases hr; exact hdom _ (Nat.le_refl _) hlt)
    rw [k1]
    exact hK ρ' w' undef VR.undef k3 k4
  · rename_i f args hex
    obtain ⟨args', k1, k2⟩ := simE hex hat.tm hat.hp hat.wf (fun h2 hr hlt => by
      rcases hr with ⟨_, hr⟩ | hr <;> cases hr)
    split at he
    · rename_i v1 hev
      cases he
      obtain ⟨v', q1, q2⟩ := extA_sound hev k2
      rw [k1, q2 w]
      exact hK ρ w v' q1 hat.hp (Ext.refl ρ h w)
    obtain ⟨q1, q2⟩ := callA_sound hi hx he k2 hat.hp hat.wf hdom
    rw [k1, q1 w]
    refine ⟨fun hh => by simp [FW, Fence.wide] at hh, ?_⟩
    refine q2.mono ?_
    rintro e w' ⟨ρ', v', rfl, r1, r2, r3⟩
    exact hK ρ' w' v' r1 r2 r3

end
end Go.Proofs.YtdocmpnofklaoaaGreatDoor.Ev

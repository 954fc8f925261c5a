/- The evaluator is right: an open order, joined; all code; a call. -/
import Derived.Test.YtdocmpnofklaoaaGreatDoorEv18
namespace Go.Proofs.YtdocmpnofklaoaaGreatDoor.Ev
open Go
set_option linter.unusedSimpArgs false

section
variable {P : Program} {ih : Ih} {ops : Array Oper} {S : Nat → Fr} {Hh : Nat → H} {V : Nat → Value} {D : List Deferred}
variable {ρ0 ρ : Rho} {a : Act} {w0 w : World} {L : Nat → Prop} {q : Nat}

theorem exec_pure {s : Fr} {h : H} {op : Op} {v : Value} (hc : cls P op = 0) (hx : execP P s op = some v) : exec P s h op = some (.val v h) := by
  unfold exec; rw [hc, hx]; rfl
theorem exec_read {s : Fr} {h : H} {op : Op} {v : Value} (hc : cls P op = 2) (hx : execR P s h.obj op = some v) : exec P s h op = some (.val v h) := by
  unfold exec; rw [hc, hx]; rfl

theorem binds_any (e : Edge) : Region.binds .any e = bindsB e := by
  unfold Region.binds bindsB
  cases e.ground <;> rfl
theorem mem_bnd {o : Oper} {e : Edge} (h : e ∈ o.after.toList) (hb : Region.binds .any e = true) : e ∈ bnd o := by
  rw [binds_any] at hb; exact List.mem_filter.2 ⟨h, hb⟩
theorem bnd_mem {o : Oper} {e : Edge} (h : e ∈ bnd o) : e ∈ o.after.toList := (List.mem_filter.1 h).1

theorem Inv.step (R : Run P ih ops S Hh V) (hi : Sound P ih) (hxt : IhExt ih) (I : Inv P ops S Hh V ρ0 w0 D L q ρ a w) {i : Nat} {o : Oper} (ho : ops[i]? = some o) (hn : ¬ L i) (hr : ∀ e ∈ (bnd o), L e.on)
    {K : Act → World → Prop} {Q : Exit → Act → World → Prop} (hK : ∀ q' ρ' a' w', Inv P ops S Hh V ρ0 w0 D (fun k => L k ∨ k = i) q' ρ' a' w' → K a' w') : wpOpIn FW 0 P ops Q i K a w := by
  have hisz : i < ops.size := (Array.getElem?_eq_some_iff.1 ho).1
  -- the frame as it stands
  let f := fun t => VL ops S V L ops.size t
  have hTR : TR ρ (likeFr f (S 0).nt (S 0).df) a.tmps := ⟨I.size, fun t => by rw [likeFr_get]; exact I.tm t⟩
  have hat : At ρ (likeFr f (S 0).nt (S 0).df) (Hh q) a w := ⟨hTR, I.hp, R.wfs I.qle, by rw [I.nod]; exact I.dr.mono I.sub⟩
  have hlook : ∀ t ∈ looksA ops o, (likeFr f (S 0).nt (S 0).df).get t = (S i).get t := fun t ht => by
    rw [likeFr_get]; exact R.finds I.down ho hn hr ht
  have hst := (R.step i o ho).1
  unfold wpOpIn
  rw [ho]
  dsimp only
  -- an operation that lays nothing of its own goes by the law of one operation
  have quiet : ¬ eff P ops S i → ¬ flo P ops S i → opV P ih ops o (S i) (Hh q) = .ok (V i, Hh q) →
      (if Region.wanted o (yielded ops a.tmps) then o.wpIn FW 0 P a w K Q else (∀ f, o.about P w a.eval = some f → FW.fn f) ∧ K (a.put o.dst undef) w) := by
    intro he hf hop
    have hop' : opV P ih ops o (likeFr f (S 0).nt (S 0).df) (Hh q) = .ok (V i, Hh q) := by rw [(opV_congr (h := Hh q) hlook).1]; exact hop
    refine opV_quiet hop' hat ?_ (fun ρ' w' v' h1 h2 h3 => hK q ρ' _ w' (I.same R ho hn hr he hf h1 h2 h3))
    rcases went hst with ⟨hw, _, _⟩ | ⟨_, hc, _, _⟩ | ⟨_, hw, hc, _, _⟩ | ⟨_, hc, _, _⟩ | ⟨hw, hc⟩
    · left; rw [(opV_congr (ih := ih) (P := P) (h := Hh q) hlook).2.1]; exact hw
    · right; left; exact hc
    · exact absurd ⟨o, ho, hw, hc⟩ hf
    · right; right; exact hc
    · exact absurd ⟨o, ho, hw, hc⟩ he
  rcases went hst with ⟨hw, hv, _⟩ | ⟨hw, hc, hx, _⟩ | ⟨ob, hw, hc, hx, hh⟩ | ⟨hw, hc, hx, _⟩ | ⟨hw, hc⟩
  · refine quiet (fun ⟨o', h1, h2, _⟩ => by rw [ho] at h1; simp at h1; subst h1; rw [hw] at h2; simp at h2) (fun ⟨o', h1, h2, _⟩ => by rw [ho] at h1; simp at h1; subst h1; rw [hw] at h2; simp at h2) ?_
    unfold opV; rw [opV_guard hst, hw, hv]; rfl
  · refine quiet (fun ⟨o', h1, _, h2⟩ => by rw [ho] at h1; simp at h1; subst h1; omega) (fun ⟨o', h1, _, h2⟩ => by rw [ho] at h1; simp at h1; subst h1; omega) ?_
    unfold opV; rw [opV_guard hst, hw, exec_pure hc hx]; rfl
  · -- it lays
    have hf : flo P ops S i := ⟨o, ho, hw, hc⟩
    have hnx := R.laid_next hf
    have hnone : ρ (Hh i).next = none := by
      cases hx' : ρ (Hh i).next with
      | none => rfl
      | some y => exact absurd (I.dom i hisz _ (Nat.le_refl _) (by omega) (by rw [hx']; rfl)) hn
    have hcg := opV_congr (P := P) (ih := ih) (h := Hh q) hlook
    have hx' : execA P (likeFr f (S 0).nt (S 0).df) o.op (Hh i).next = some (V i, ob) := by rw [execA_congr hcg.2.2]; exact hx
    obtain ⟨w', v', o', N, k1, k2, k3, k4⟩ := simA hx' hTR w hnone
    rw [wanted_eq hTR (opV_guard ((opV_congr (P := P) (ih := ih) (h := Hh i) hlook).1.trans hst)), hcg.2.1, hw]
    rw [if_pos rfl]
    refine ⟨fun _ _ => trivial, ?_⟩
    show o.uponIn FW 0 P a K Q ((execOp a.eval o).run P w)
    rw [k1]
    exact hK q _ _ w' (I.lays R ho hn hr hf (by rw [hh, H.obj_new]; simp) k2 k3 k4)
  · refine quiet (fun ⟨o', h1, _, h2⟩ => by rw [ho] at h1; simp at h1; subst h1; omega) (fun ⟨o', h1, _, h2⟩ => by rw [ho] at h1; simp at h1; subst h1; omega) ?_
    have hx' : execR P (S i) (Hh q).obj o.op = some (V i) := execR_some_blk hx (fun b h1 h2 => I.reads R ho hn hr hc h1 h2)
    unfold opV; rw [opV_guard hst, hw, exec_read hc hx']; rfl
  · -- it acts: it is the next one
    have he : eff P ops S i := ⟨o, ho, hw, hc⟩
    have hiq : i = q := by
      have h1 : ¬ i < q := fun h => hn ((I.effs i hisz he).2 h)
      by_cases h2 : q < i
      · have hqs : q < ops.size := by omega
        obtain ⟨p, hp, hpw, hpc⟩ := I.qeff hqs
        have hlt := fun i o h e he => (R.edge i o h e he).1
        rcases R.pairs i q o p ho hp h2 with h3 | ⟨_, _, _, h3⟩
        · have := (I.effs q hqs ⟨p, hp, hpw, hpc⟩).1 (befs_closed hlt I.down (i + 1) i o (Nat.lt_succ_self _) ho hr q h3); omega
        · exact absurd ⟨hpc, hc⟩ h3
      · omega
    subst hiq
    have hcg := opV_congr (P := P) (ih := ih) (h := Hh i) hlook
    have hop' : opV P ih ops o (likeFr f (S 0).nt (S 0).df) (Hh i) = .ok (V i, Hh (i + 1)) := by rw [hcg.1]; exact hst
    have hdom : ∀ x, (Hh i).next ≤ x → x < (Hh (i + 1)).next → ρ x = none := by
      intro x x1 x2
      cases hz : ρ x with
      | none => rfl
      | some y => exact absurd (I.dom i hisz x x1 x2 (by rw [hz]; rfl)) hn
    have hup := opV_act hi hxt hop' hat hc hdom (K := K) (Q := Q) (fun ρ' w' v' h1 h2 h3 => by
      obtain ⟨q', I'⟩ := I.acts R ho hn hr h1 h2 h3
      exact hK q' ρ' _ w' I')
    rw [hcg.2.1] at hup
    exact hup hw

/-! ### The whole statement -/

theorem count_set : ∀ (l : List Bool) (i : Nat), l[i]? = some false → (l.set i true).count false + 1 = l.count false
  | [], i, h => by simp at h
  | b :: l, 0, h => by simp at h; subst h; simp
  | b :: l, i + 1, h => by
    have := count_set l i (by simpa using h)
    cases b <;> simp <;> omega

theorem getElem?_of_size {l : Array Bool} {i : Nat} (h : i < l.size) : l[i]? = some (l.getD i false) := by
  rw [Array.getD_eq_getD_getElem?]; simp [h]

theorem any_order (R : Run P ih ops S Hh V) (hi : Sound P ih) (hxt : IhExt ih) {Q : Exit → Act → World → Prop} (hQ : ∀ ρ' a' w', At ρ' (S ops.size) (Hh ops.size) a' w' → Ext ρ0 (Hh 0) w0 ρ' (Hh ops.size) w' → a'.defers = D → Q .normal a' w') :
    ∀ (fuel : Nat) (listed : Array Bool) (q : Nat) (ρ : Rho) (a : Act) (w : World), listed.size = ops.size → listed.toList.count false ≤ fuel →
      Inv P ops S Hh V ρ0 w0 D (fun i => i < ops.size ∧ listed.getD i false = true) q ρ a w → wpAnyIn FW 0 P .any ops Q fuel listed a w := by
  -- where none may go, all have gone
  have hall : ∀ (listed : Array Bool), listed.size = ops.size → Region.ready .any ops listed = [] → ∀ i, i < ops.size → listed.getD i false = true := by
    intro listed hs hr i
    induction i using Nat.strongRecOn with
    | _ i ihi =>
      intro hlt
      cases hb : listed.getD i false with
      | true => rfl
      | false =>
        exfalso
        obtain ⟨o, ho⟩ := R.get? hlt
        have hb' : listed.getD i true = false := by
          rw [Array.getD_eq_getD_getElem?] at hb ⊢
          simp [show i < listed.size by omega] at hb ⊢; exact hb
        have : i ∈ Region.ready .any ops listed := by
          simp only [Region.ready, List.mem_filter, List.mem_range, Bool.and_eq_true, hb', Bool.not_false, true_and]
          refine ⟨hlt, ?_⟩
          rw [ho]
          simp only [Option.map_some, Option.getD_some]
          rw [← Array.all_toList, List.all_eq_true]
          intro e he
          cases hb2 : Region.binds .any e with
          | false => rfl
          | true =>
            obtain ⟨h1, h2⟩ := R.edge i o ho e (mem_bnd he hb2)
            rw [ihi e.on h1 (by omega)]; rfl
        rw [hr] at this; simp at this
  intro fuel
  induction fuel with
  | zero =>
    intro listed q ρ a w hs hc I
    have hno : ∀ i, i < ops.size → listed.getD i false = true := by
      intro i hlt
      cases hb : listed.getD i false with
      | true => rfl
      | false =>
        have : listed.toList.count false > 0 := by
          rw [gt_iff_lt, List.count_pos_iff]
          have h1 := getElem?_of_size (l := listed) (i := i) (by omega)
          rw [hb] at h1
          exact List.mem_of_getElem? (by simpa using h1)
        omega
    refine ⟨?_, ?_⟩
    · rw [List.eq_nil_iff_forall_not_mem]
      intro i hm
      simp only [Region.ready, List.mem_filter, List.mem_range, Bool.and_eq_true] at hm
      have h1 := hno i hm.1
      have h2 := hm.2.1
      rw [Array.getD_eq_getD_getElem?] at h1 h2
      simp [show i < listed.size by omega] at h1 h2
      rw [h1] at h2; simp at h2
    · obtain ⟨h1, h2, h3⟩ := I.finish R (fun i hlt => ⟨hlt, hno i hlt⟩)
      exact hQ ρ a w h1 h2 h3
  | succ fuel ihf =>
    intro listed q ρ a w hs hc I
    refine ⟨fun hr => ?_, fun i hm => ?_⟩
    · obtain ⟨h1, h2, h3⟩ := I.finish R (fun i hlt => ⟨hlt, hall listed hs hr i hlt⟩)
      exact hQ ρ a w h1 h2 h3
    · simp only [Region.ready, List.mem_filter, List.mem_range, Bool.and_eq_true, Bool.not_eq_true'] at hm
      obtain ⟨hlt, hm1, hm2⟩ := hm
      obtain ⟨o, ho⟩ := R.get? hlt
      rw [ho] at hm2
      simp only [Option.map_some, Option.getD_some] at hm2
      rw [← Array.all_toList, List.all_eq_true] at hm2
      have hfalse : listed.getD i false = false := by
        rw [Array.getD_eq_getD_getElem?] at hm1 ⊢
        simp [show i < listed.size by omega] at hm1 ⊢; exact hm1
      have hn : ¬ (i < ops.size ∧ listed.getD i false = true) := by rintro ⟨_, h⟩; rw [hfalse] at h; simp at h
      refine I.step R hi hxt ho hn (fun e he => ?_) (fun q' ρ' a' w' I' => ?_)
      · have h1 := hm2 e (bnd_mem he)
        obtain ⟨h2, h3⟩ := R.edge i o ho e he
        rw [h3] at h1
        exact ⟨by omega, by simpa using h1⟩
      · refine ihf (listed.setIfInBounds i true) q' ρ' a' w' (by simpa using hs) ?_ ?_
        · have h1 := getElem?_of_size (l := listed) (i := i) (by omega)
          rw [hfalse] at h1
          have := count_set listed.toList i (by simpa using h1)
          rw [Array.toList_setIfInBounds]; omega
        · have hL : (fun k => (k < ops.size ∧ listed.getD k false = true) ∨ k = i) = (fun k => k < ops.size ∧ (listed.setIfInBounds i true).getD k false = true) := by
            funext k
            apply propext
            rw [Array.getD_eq_getD_getElem?, Array.getD_eq_getD_getElem?]
            by_cases e : k = i
            · subst e
              simp [show k < listed.size by omega, hlt]
            · rw [Array.getElem?_setIfInBounds_ne (Ne.symm e)]
              simp [e]
          rw [← hL]; exact I'

/-- What the evaluator found of a statement whose order is open. -/
theorem run_of_trace (hx : IhExt ih) {s : Fr} {h : H} {sts : List (Fr × H)} (ht : opsTrace P ih ops ops.toList s h = .ok sts) (hs : drawStatic P ops = true) (hd : drawDyn P ops sts = true) (hwf : WFH h) :
    ∃ S Hh V, Run P ih ops S Hh V ∧ S 0 = s ∧ Hh 0 = h ∧ sts.getLast? = some (S ops.size, Hh ops.size) := by
  obtain ⟨k1, k2, k3⟩ := trace_steps ht
  simp only [Array.length_toList] at k1
  let S : Nat → Fr := fun i => match sts[i]? with | some x => x.1 | none => s
  let Hh : Nat → H := fun i => match sts[i]? with | some x => x.2 | none => h
  have hSH : ∀ i x, sts[i]? = some x → S i = x.1 ∧ Hh i = x.2 := fun i x hx => by simp [S, Hh, hx]
  have hV : ∀ i, ∃ v, ∀ o, ops[i]? = some o → opV P ih ops o (S i) (Hh i) = .ok (v, Hh (i + 1)) ∧ (S i).put o.dst v = some (S (i + 1)) := by
    intro i
    cases ho : ops[i]? with
    | none => exact ⟨undef, fun o h => by simp at h⟩
    | some o =>
      obtain ⟨si, hi', v, si', hi'', q1, q2, q3, q4⟩ := k3 i o (by simpa using ho)
      refine ⟨v, fun o' h => ?_⟩
      simp at h; subst h
      rw [(hSH _ _ q1).1, (hSH _ _ q1).2, (hSH _ _ q2).1, (hSH _ _ q2).2]
      exact ⟨q3, q4⟩
  obtain ⟨V, hV⟩ := Classical.axiomOfChoice hV
  have hst := List.all_eq_true.1 hs
  have hdy := List.all_eq_true.1 hd
  refine ⟨S, Hh, V, ⟨fun i o ho => hV i o ho, fun i hi => ?_, by rw [(hSH _ _ k2).2]; exact hwf, fun i o ho e he => ?_, fun i j o p ho hp hji => ?_, fun r e o p ho hp hc1 hc2 => ?_⟩, (hSH _ _ k2).1, (hSH _ _ k2).2, ?_⟩
  · exact opV_ext hx (hV i ops[i] (by simp [hi])).1
  · have hlt : i < ops.size := (Array.getElem?_eq_some_iff.1 ho).1
    have h1 := hst i (List.mem_range.2 hlt)
    rw [ho] at h1
    simp only [Bool.and_eq_true] at h1
    have h2 := List.all_eq_true.1 h1.1 e he
    unfold edgeOk at h2
    simp only [Bool.and_eq_true] at h2
    exact ⟨by have := h2.2; rwa [Nat.blt_eq] at this, by rw [binds_any]; exact h2.1⟩
  · have hlt : i < ops.size := (Array.getElem?_eq_some_iff.1 ho).1
    have h1 := hst i (List.mem_range.2 hlt)
    rw [ho] at h1
    simp only [Bool.and_eq_true] at h1
    have h2 := List.all_eq_true.1 h1.2 j (List.mem_range.2 hji)
    rw [hp] at h2
    simp only [Bool.or_eq_true, Bool.not_eq_true', Bool.or_eq_false_iff, Bool.and_eq_false_iff] at h2
    rcases h2 with h2 | ⟨⟨⟨h2, h3⟩, h4⟩, h5⟩
    · exact .inl h2
    · refine .inr ⟨h2, h3, h4, fun ⟨a1, a2⟩ => ?_⟩
      rw [a1, a2] at h5; simp at h5
  · have hlr : r < ops.size := (Array.getElem?_eq_some_iff.1 ho).1
    have hle : e < ops.size := (Array.getElem?_eq_some_iff.1 hp).1
    have h1 := hdy r (List.mem_range.2 hlr)
    rw [ho] at h1
    simp only [hc1, Bool.or_eq_true, Bool.not_eq_true'] at h1
    rcases h1 with h1 | h1
    · simp at h1
    · have h2 := List.all_eq_true.1 h1 e (List.mem_range.2 hle)
      rw [hp] at h2
      simp only [hc2, Bool.or_eq_true, Bool.not_eq_true'] at h2
      rcases h2 with ((h2 | h2) | h2) | h2
      · simp at h2
      · exact .inl h2
      · exact .inr (.inl h2)
      · refine .inr (.inr fun b hb => ?_)
        unfold verSame at h2
        have hsr : ∃ x, sts[r]? = some x := ⟨sts[r], by simp [show r < sts.length by omega]⟩
        obtain ⟨⟨xs, xh⟩, hsr⟩ := hsr
        have hidx : (bif Nat.blt r e then e + 1 else e) = (if r < e then e + 1 else e) := by
          by_cases hre : r < e
          · have : Nat.blt r e = true := by rw [Nat.blt_eq]; exact hre
            rw [this, if_pos hre]; rfl
          · have : Nat.blt r e = false := by
              cases hbb : Nat.blt r e with
              | false => rfl
              | true => rw [Nat.blt_eq] at hbb; exact absurd hbb hre
            rw [this, if_neg hre]; rfl
        have hse : ∃ x, sts[if r < e then e + 1 else e]? = some x := by
          have : (if r < e then e + 1 else e) < sts.length := by split <;> omega
          exact ⟨sts[if r < e then e + 1 else e], by simp [this]⟩
        obtain ⟨⟨ys, yh⟩, hse⟩ := hse
        rw [hidx, hsr, hse] at h2
        dsimp only at h2
        have e1 := hSH _ _ hsr
        have e2 := hSH _ _ hse
        rw [e1.1] at hb
        rw [hb] at h2
        dsimp only at h2
        rw [e1.2, e2.2]
        dsimp only
        split at h2
        · rename_i x y hx1 hy1
          have : x = y := by simpa using h2
          subst this
          exact ⟨x, hx1, hy1⟩
        · simp at h2
  · have hl : sts.getLast? = sts[ops.size]? := by rw [List.getLast?_eq_getElem?, k1]; rfl
    have hs' : ∃ x, sts[ops.size]? = some x := ⟨sts[ops.size], by simp [show ops.size < sts.length by omega]⟩
    obtain ⟨x, hx'⟩ := hs'
    rw [hl, hx', (hSH _ _ hx').1, (hSH _ _ hx').2]

theorem deferA_run {s : Fr} {o : Oper} {a : Act} {w : World} {ρ : Rho} {d : FuncId × List Value} (he : deferA s o = some d) (ht : TR ρ s a.tmps) :
    ∃ d', (execOp a.eval o).run P w = .ok (.defer d') w ∧ DE ρ (some d) d' := by
  unfold deferA at he
  split at he
  · rename_i c hop
    split at he
    · rename_i f hcal
      split at he
      · rename_i g first cap vs hf hvs
        simp only [Option.some.injEq] at he; subst he
        have hfv := ht.ev hf
        have hargs := ht.evs hvs
        generalize e : a.eval f = u at hfv
        cases hfv with
        | atom hh => simp [okAtom] at hh
        | func h1 h2 =>
          rename_i fs cs
          refine ⟨{ target := .fn (.func g) cs, args := fs ++ c.args.map a.eval }, by simp [execOp, hop, resolve, hcal, e, Deferred.ofValue], .call ?_⟩
          simp only [Array.toList_append, Array.toList_map]
          exact (h1.append hargs).append h2
      · simp at he
    · simp at he
  · simp at he

theorem seq_order (hi : Sound P ih) (hx : IhExt ih) {Q : Exit → Act → World → Prop} : ∀ (l : List Oper) (k : Nat) (s : Fr) (h : H) (s' : Fr) (h' : H) (ρ : Rho) (a : Act) (w : World), (∀ j, l[j]? = ops[k + j]?) →
    opsRun P ih ops l s h = .ok (s', h') → At ρ s h a w → (∀ x, h.next ≤ x → x < h'.next → ρ x = none) →
    (∀ ρ' a' w', At ρ' s' h' a' w' → XA ρ h a w ρ' h' a' w' → Q .normal a' w') → wpOpsIn FW 0 P ops Q (List.range' k l.length) a w
  | [], k, s, h, s', h', ρ, a, w, _, he, hat, _, hQ => by
    simp only [opsRun] at he; cases he
    exact hQ ρ a w hat (XA.refl _ _ _ _)
  | o :: l, k, s, h, s', h', ρ, a, w, hl, he, hat, hdom, hQ => by
    have h0 : ops[k]? = some o := by simpa using (hl 0).symm
    have hl' : ∀ j, l[j]? = ops[k + 1 + j]? := fun j => by have := hl (j + 1); simpa [Nat.add_assoc, Nat.add_comm 1 j] using this
    simp only [List.length_cons, List.range'_succ, wpOpsIn_cons]
    unfold wpOpIn
    rw [h0]
    simp only [opsRun] at he
    split at he
    · rename_i d hd
      have hc := (exc_false he).1
      replace he := (exc_false he).2
      simp only [Bool.and_eq_true, Option.isNone_iff_eq_none] at hc
      obtain ⟨d', k1, k2⟩ := deferA_run (P := P) (w := w) hd hat.tm
      simp only
      rw [wanted_eq hat.tm hc.1, if_pos hc.2.1]
      refine ⟨fun _ _ => trivial, ?_⟩
      show o.uponIn FW 0 P a _ Q ((execOp a.eval o).run P w)
      rw [k1, Oper.uponIn_defer]
      have hput : ({ a with defers := d' :: a.defers } : Act).put o.dst undef = { a with defers := d' :: a.defers } := by rw [hc.2.2]; rfl
      rw [hput]
      have hno : marksOf [d'] = [] := by cases k2; rfl
      refine seq_order hi hx l (k + 1) ⟨s.tm, s.nt, some d :: s.df⟩ h s' h' ρ { a with defers := d' :: a.defers } w hl' he ⟨⟨hat.tm.size, hat.tm.get⟩, hat.hp, hat.wf, .cons k2 hat.df⟩ hdom (fun ρ'' a'' w'' r1 r2 => ?_)
      exact hQ ρ'' a'' w'' r1 (XA.trans ⟨Ext.refl _ _ _, [d'], rfl, by rw [hno]; exact .nil⟩ r2)
    · split at he
      · cases he
      · rename_i v h1 hv
        split at he
        · cases he
        · rename_i s1 hs
          have hext1 := opY_ext hx hv
          have hext2 := (opsRun_ext hx he).1
          refine opY_sound hi hx hv hat (fun x x1 x2 => hdom x x1 (Nat.lt_of_lt_of_le x2 hext2.next)) (fun ρ' w' v' q1 q2 q3 => ?_)
          refine seq_order hi hx l (k + 1) s1 h1 s' h' ρ' _ w' hl' he ⟨(hat.tm.mono q3.sub).put q1 hs, q2, q3.wf hat.wf, by rw [Fr.put_df hs]; cases o.dst <;> exact hat.df.mono q3.sub⟩ (dom_behind hdom q3) (fun ρ'' a'' w'' r1 r2 => hQ ρ'' a'' w'' r1 (XA.trans (.same q3 (by cases o.dst <;> rfl)) r2))

theorem exOf_block {id : Nat} {Q : Exit → Act → World → Prop} {ex : AEx} {a' : Act} {w' : World} :
    (Exit.inBlock id Q (exOf ex) a' w') = (match ex with | .exit id' => if id' = id then Q .normal a' w' else Q (.exit id') a' w' | e => Q (exOf e) a' w') := by
  cases ex <;> rfl

theorem loop_sound (hi : Sound P ih) (hx : IhExt ih) {c : Code} {s s' : Fr} {h h' : H} {ex : AEx} (he : stepE P ih (.loop c) s h = .ok (ex, s', h')) :
    ∃ m, ∀ (ρ : Rho) (a : Act) (w : World), At ρ s h a w → (∀ x, h.next ≤ x → x < h'.next → ρ x = none) →
    ∀ Q : Exit → Act → World → Prop, (∀ ρ' a' w', At ρ' s' h' a' w' → XA ρ h a w ρ' h' a' w' → Q (exOf ex) a' w') → Code.roundsIn FW 0 P c Q m a w := by
  simp only [stepE] at he
  split at he
  · rename_i s1 h1 h2
    have e2 := (hx.code _ _ _ _ _ _ he).1
    obtain ⟨m, hm⟩ := hi.loop c s1 h1 ex s' h' he
    refine ⟨m + 1, fun ρ a w hat hdom Q hQ => ?_⟩
    rw [roundsIn_succ]
    exact hi.code c s h .normal s1 h1 h2 ρ a w hat (fun z z1 z2 => hdom z z1 (Nat.lt_of_lt_of_le z2 e2.next)) _
      (fun ρ' a' w' r1 r2 => hm ρ' a' w' r1 (dom_behind hdom r2.toExt) Q (fun ρ'' a'' w'' r3 r4 => hQ ρ'' a'' w'' r3 (r2.trans r4)))
  · rename_i hne
    refine ⟨1, fun ρ a w hat hdom Q hQ => ?_⟩
    rw [roundsIn_succ]
    refine hi.code c s h ex s' h' he ρ a w hat hdom _ (fun ρ' a' w' r1 r2 => ?_)
    have hq := hQ ρ' a' w' r1 r2
    cases ex with
    | normal => exact absurd he (hne s' h')
    | exit id => exact hq
    | ret => exact hq

/-- Two blocks, of which the evaluator reads the second. -/
theorem ext_two {h : H} {w w' : World} {x y : Obj} {ob : AObj} (hn : ρ h.next = none) (hg : HR ρ h.obj w) (hh : w'.heap = (w.heap.push x).push y) (he : Env w w')
    (ho : OR (Upd ρ h.next ⟨w.heap.size + 1, 0, 0⟩) ⟨w.heap.size + 1, 0, 0⟩ ob (some y)) :
    HR (Upd ρ h.next ⟨w.heap.size + 1, 0, 0⟩) (h.new ob).obj w' ∧ Ext ρ h w (Upd ρ h.next ⟨w.heap.size + 1, 0, 0⟩) (h.new ob) w' := by
  let w1 : World := { w with heap := w.heap.push x }
  have e1 : w1.heap.size = w.heap.size + 1 := by simp [w1]
  have hx : Ext ρ h w ρ h w1 := ⟨Sub.refl ρ, fun a h1 h2 => by rw [h1] at h2; simp at h2, fun b hb hf => ⟨by simp [w1, Array.getElem?_push_lt hb], hf⟩, fun b hb hf => ⟨by simp [w1, Array.getElem?_push_lt hb], hf⟩, by rw [e1]; omega, Nat.le_refl _, Nat.le_refl _, fun _ _ _ => rfl, fun _ _ => .inl rfl, id, rfl, rfl⟩
  have hg1 : HR ρ h.obj w1 := ⟨fun a i ob q1 q2 => by
      have hlt := hg.lt a i q1
      have : w1.heap[i.b]? = w.heap[i.b]? := by simp [w1, Array.getElem?_push_lt hlt]
      rw [this]; exact hg.obj a i ob q1 q2, hg.inj, fun a i q1 => by rw [e1]; exact Nat.lt_succ_of_lt (hg.lt a i q1)⟩
  obtain ⟨k1, k2⟩ := ext_new (w := w1) (w' := w') (ob := ob) (o' := y) (N := 0) hn hg1 ⟨hh, he.1, he.2⟩ (by rw [e1]; exact ho)
  rw [e1] at k1 k2
  exact ⟨k1, hx.trans k2⟩

theorem afterA_some {s s' : Fr} {b : Nat} {h h' : H} {ex : AEx} (he : afterA s b h = .ok (ex, s', h')) :
    s' = ⟨s.tm, s.nt, none :: s.df⟩ ∧ h' = h.upd b .dead ∧ ∃ st tm nt ps asg body, h.obj b = some (.loop st (jumpOf ex) tm nt ps asg body) ∧ st ≠ .busy := by
  unfold afterA at he
  split at he
  · cases he
  · rename_i hnb hb
    split at he <;> cases he
    all_goals exact ⟨rfl, rfl, _, _, _, _, _, _, hb, fun e => hnb e⟩
  · cases he

/-- A range over a function: its rounds are met where yield is called. -/
theorem range_sound (hi : Sound P ih) (hx : IhExt ih) {g : Operand} {ps : Array Tmp} {asg body : Code} {f : FuncId} {first cap : Array Value} {s s' : Fr} {h h1 h' : H} {ex : AEx} {v1 : Value} {a : Act} {w : World} {Q : Exit → Act → World → Prop}
    (hg : ev s g = some (.func (.func f) first cap)) (hc : callA P ih f (first.toList ++ .func (.yield h.next) #[] #[] :: cap.toList) (h.new (.loop .ready none s.tm s.nt ps.toList asg body)) = .ok (v1, h1))
    (hend : afterA s h.next h1 = .ok (ex, s', h')) (hat : At ρ s h a w)
    (hdom : ∀ x, h.next ≤ x → x < h1.next → ρ x = none) (hx1 : h.next + 1 ≤ h1.next)
    (hQ : ∀ ρ' a' w', At ρ' s' h' a' w' → XA ρ h a w ρ' h' a' w' → Q (exOf ex) a' w') : (Code.rangeFunc g ps asg body).wpIn FW 0 P Q a w := by
  refine wpIn_rangeFunc fun fn _ => ?_
  have hv := hat.tm.ev hg
  generalize ea : a.eval g = u at hv
  cases hv with
  | atom hh => simp [okAtom] at hh
  | func q1 q2 =>
    rename_i fs cs
    have hn : ρ h.next = none := hdom _ (Nat.le_refl _) (by omega)
    let rec0 : Loop := { state := .ready, pending := none, fn, tmps := a.tmps, params := ps, assign := asg, body, defers := w.heap.size }
    let L0 : AObj := .loop .ready none s.tm s.nt ps.toList asg body
    let W1 : World := (w.alloc (.deferred (some []))).alloc (.loop rec0)
    have hW1 : W1.heap = (w.heap.push (.deferred (some []))).push (.loop rec0) := rfl
    have hsz : W1.heap.size = w.heap.size + 2 := by rw [hW1]; simp
    have hsub0 : Sub ρ (Upd ρ h.next ⟨w.heap.size + 1, 0, 0⟩) := Upd.sub _ hn
    obtain ⟨k1, k2⟩ := ext_two (w' := W1) (ob := L0) hn hat.hp hW1 ⟨rfl, rfl⟩ ⟨rfl, rec0, rfl, rfl, rfl, ⟨hat.tm.size, fun t => (hat.tm.get t).mono hsub0⟩, rfl, rfl, rfl⟩
    have hsub := k2.sub
    have hargs : VRs (Upd ρ h.next ⟨w.heap.size + 1, 0, 0⟩) (first.toList ++ Value.func (.yield h.next) #[] #[] :: cap.toList) (fs ++ #[Value.func (.yield (w.heap.size + 1)) #[] #[]] ++ cs).toList := by
      simp only [Array.toList_append, List.append_assoc, List.cons_append, List.nil_append]
      exact (q1.mono hsub).append (.cons (.yield (i := ⟨w.heap.size + 1, 0, 0⟩) (Upd.same _ _ _)) (q2.mono hsub))
    obtain ⟨j1, j2⟩ := callA_sound hi hx hc hargs k1 (k2.wf hat.wf) (fun x x1 x2 => by
      have x1' : h.next + 1 ≤ x := x1
      rw [show Upd ρ h.next ⟨w.heap.size + 1, 0, 0⟩ x = ρ x by simp [Upd, show x ≠ h.next by omega]]
      exact hdom x (by omega) x2)
    refine ⟨w.heap.size + 1, [mark w.heap.size], W1, { target := .fn (.func f) cs, args := fs ++ #[Value.func (.yield (w.heap.size + 1)) #[] #[]] }, W1, f, _, W1, run_enterLoop_outer fn a.tmps ps asg body, ?_, fun _ _ => trivial, ?_, fun hh => by simp [FW, Fence.wide] at hh, j2.mono ?_⟩
    · simp [resolve, rangeCall, ea, Deferred.ofValue]; rfl
    · show (callFunc f (fs ++ #[Value.func (.yield (w.heap.size + 1)) #[] #[]] ++ cs)).run P W1 = _
      rw [j1]
    · rintro e w2 ⟨ρ', v', rfl, r1, r2, r3⟩
      have nofree : Free (Upd ρ h.next ⟨w.heap.size + 1, 0, 0⟩) (h.new L0).obj w.heap.size := by
        intro x i o hxi hxo hl e
        by_cases ex : x = h.next
        · subst ex; rw [Upd.same] at hxi; simp only [Option.some.injEq] at hxi; subst hxi; simp at e
        · have : ρ x = some i := by simpa [Upd, ex] using hxi
          have := hat.hp.lt x i this; omega
      have hd := r3.keep w.heap.size (by rw [hsz]; omega) nofree
      have hd0 : w2.heap[w.heap.size]? = some (.deferred (some [])) := by
        rw [hd.1, hW1, Array.getElem?_push, if_neg (by simp), Array.getElem?_push, if_pos rfl]
      obtain ⟨e1, e2, st, tm2, nt2, ps2, asg2, body2, hb2, hnb⟩ := afterA_some hend
      have hρ' : ρ' h.next = some ⟨w.heap.size + 1, 0, 0⟩ := r3.sub _ _ (Upd.same _ _ _)
      obtain ⟨_, r, p1, p2, p3, _⟩ := r2.obj _ _ _ hρ' hb2
      have hl0 : w2.heap[w.heap.size + 1]? = some (.loop r) := p1
      have hlt : w.heap.size + 1 < w2.heap.size := r2.lt _ _ hρ'
      let w4 : World := w2.putObj (w.heap.size + 1) (.loop { r with state := .exhausted })
      obtain ⟨g1, g2⟩ := ext_upd (w' := w4) (o' := .dead) hρ' hb2 rfl r2 trivial (fun x hx => World.putObj_heap_other hx) ⟨World.putObj_size, rfl, rfl⟩ (r3.wf (k2.wf hat.wf))
      rw [← e2] at g1 g2
      have X := (k2.trans r3).trans g2
      have hd4 : w4.heap[w.heap.size]? = some (.deferred (some [])) := by
        show (w2.putObj _ _).heap[w.heap.size]? = _
        rw [World.putObj_heap_other (by omega)]; exact hd0
      have hfree := (g2.keep w.heap.size (by omega) hd.2).2
      have hQ' : Q (exOf ex) { a with defers := [mark w.heap.size] ++ a.defers } w4 := by
        refine hQ ρ' _ _ ⟨⟨by rw [e1]; exact hat.tm.size, fun t => by rw [e1]; exact (hat.tm.get t).mono (hsub.trans r3.sub)⟩, g1, X.wf hat.wf, by rw [e1]; exact .cons (.mark _) (hat.df.mono (hsub.trans r3.sub))⟩ ⟨X, [mark w.heap.size], rfl, by simp [marksOf, mark], fun r hr => ?_, fun r hr => ?_, fun r hr => ?_, fun r hr => ?_⟩
        all_goals simp only [marksOf, mark, List.filterMap_cons, List.filterMap_nil, List.mem_singleton] at hr; subst hr
        · exact Nat.le_refl _
        · show _ < (w2.putObj _ _).heap.size
          rw [World.putObj_size]; omega
        · exact hd4
        · exact hfree
      have hrun := run_endLoop (P := P) hl0 (by rw [p2]; exact hnb)
      refine ⟨r.pending, w4, hrun, ?_⟩
      clear hrun hd4 g1 g2 X hfree
      clear_value w4
      rw [p3]
      cases ex with
      | normal => exact hQ'
      | ret => exact wpIn_ret hQ'
      | exit id => exact wpIn_exit hQ'

/-! ### Code in a round -/

theorem uponIn_inRound {o : Oper} {a : Act} {K K' : Act → World → Prop} {Q : Exit → Act → World → Prop} {l : Nat} (hK : ∀ a w, K a w → K' a w) {r : Result Next} (h : o.uponIn FW 0 P a K Q r) : o.uponIn (FW.inRound l) 0 P a K' Q r := by
  unfold Oper.uponIn at h ⊢
  split at h
  · exact hK _ _ h
  · exact hK _ _ h
  · exact hK _ _ h
  · refine ⟨fun hh => by simp [FW, Fence.wide, Fence.inRound] at hh, CallsIn.mono (F := FW.inRound l) h.2 ?_⟩
    intro e w' he
    cases e with
    | returned v => exact hK _ _ he
    | panicked c => exact he
    | outgrown => exact he
  · exact ⟨fun hh => by simp [FW, Fence.wide, Fence.inRound] at hh, RowsIn.mono (F := FW.inRound l) h.2 fun v w' he => hK _ _ he⟩
  · refine ⟨fun hh => by simp [FW, Fence.wide, Fence.inRound] at hh, RoundIn.mono (F := FW.inRound l) h.2 ?_⟩
    intro e w' he
    cases e with
    | returned v => exact hK _ _ he
    | panicked c => exact he
    | outgrown => exact he
  · exact h
  · exact h.elim

theorem wpOpsIn_inRound {ops : Array Oper} {Q : Exit → Act → World → Prop} {l : Nat} (hd : ∀ (i : Nat) (o : Oper) c, ops[i]? = some o → o.op ≠ .defer c) : ∀ (is : List Nat) (a : Act) (w : World),
    wpOpsIn FW 0 P ops Q is a w → wpOpsIn (FW.inRound l) 0 P ops Q is a w
  | [], a, w, h => h
  | i :: is, a, w, h => by
    rw [wpOpsIn_cons] at h ⊢
    unfold wpOpIn at h ⊢
    split at h
    · exact wpOpsIn_inRound hd is a w h
    · rename_i o ho
      split at h
      · rename_i hw
        rw [if_pos hw]
        refine ⟨fun _ _ => trivial, ?_⟩
        have h2 := h.2
        rw [Oper.semAt_eq _ _ _ (fun c => hd i o c ho)] at h2 ⊢
        exact uponIn_inRound (fun a w hh => wpOpsIn_inRound hd is a w hh) h2
      · rename_i hw
        rw [if_neg hw]
        exact ⟨fun _ _ => trivial, wpOpsIn_inRound hd is _ w h.2⟩

theorem rloop_sound (hi : Sound P ih) (hx : IhExt ih) {l : Nat} {c : Code} {s s' : Fr} {h h' : H} {ex : AEx} (he : stepR P ih (.loop c) s h = .ok (ex, s', h')) :
    ∃ m, ∀ (ρ : Rho) (a : Act) (w : World), At ρ s h a w → (∀ x, h.next ≤ x → x < h'.next → ρ x = none) →
    ∀ Q : Exit → Act → World → Prop, (∀ ρ' a' w', At ρ' s' h' a' w' → XA ρ h a w ρ' h' a' w' → Q (exOf ex) a' w') → Code.roundsIn (FW.inRound l) 0 P c Q m a w := by
  simp only [stepR] at he
  split at he
  · rename_i s1 h1 h2
    have e2 := (hx.round _ _ _ _ _ _ he).1
    obtain ⟨m, hm⟩ := hi.rloop l c s1 h1 ex s' h' he
    refine ⟨m + 1, fun ρ a w hat hdom Q hQ => ?_⟩
    rw [roundsIn_succ]
    exact hi.round l c s h .normal s1 h1 h2 ρ a w hat (fun z z1 z2 => hdom z z1 (Nat.lt_of_lt_of_le z2 e2.next)) _
      (fun ρ' a' w' r1 r2 => hm ρ' a' w' r1 (dom_behind hdom r2.toExt) Q (fun ρ'' a'' w'' r3 r4 => hQ ρ'' a'' w'' r3 (r2.trans r4)))
  · rename_i hne
    refine ⟨1, fun ρ a w hat hdom Q hQ => ?_⟩
    rw [roundsIn_succ]
    refine hi.round l c s h ex s' h' he ρ a w hat hdom _ (fun ρ' a' w' r1 r2 => ?_)
    have hq := hQ ρ' a' w' r1 r2
    cases ex with
    | normal => exact absurd he (hne s' h')
    | exit id => exact hq
    | ret => exact hq

theorem stepR_sound (hi : Sound P ih) (hx : IhExt ih) : ∀ l c s h ex s' h', stepR P ih c s h = .ok (ex, s', h') → ∀ (ρ : Rho) (a : Act) (w : World), At ρ s h a w → (∀ x, h.next ≤ x → x < h'.next → ρ x = none) →
      ∀ Q : Exit → Act → World → Prop, (∀ ρ' a' w', At ρ' s' h' a' w' → XA ρ h a w ρ' h' a' w' → Q (exOf ex) a' w') →
        c.wpIn (FW.inRound l) 0 P Q a w := by
  intro l c s h ex s' h' he ρ a w hat hdom Q hQ
  have here : ∀ {e : AEx}, ex = e → s' = s → h' = h → Q (exOf e) a w := by
    intro e h1 h2 h3; subst h1; subst h2; subst h3; exact hQ ρ a w hat (XA.refl _ _ _ _)
  cases c with
  | skip => simp only [stepR] at he; cases he; exact wpIn_skip (here rfl rfl rfl)
  | label l => simp only [stepR] at he; cases he; exact wpIn_label (here rfl rfl rfl)
  | exit id => simp only [stepR] at he; cases he; exact wpIn_exit (here rfl rfl rfl)
  | ret => simp only [stepR] at he; cases he; exact wpIn_ret (here rfl rfl rfl)
  | scope c => simp only [stepR] at he; cases he
  | goto l => simp only [stepR] at he; cases he
  | rangeFunc g ps asg body => simp only [stepR] at he; cases he
  | refuse w => simp only [stepR] at he; cases he
  | region id ops draw =>
    cases draw with
    | false =>
      simp only [stepR] at he
      rcases cond_or he with ⟨_, he⟩ | ⟨hnd, he⟩
      · cases he
      split at he
      · cases he
      · rename_i s1 h1 hr
        cases he
        refine wpIn_region (wpOpsIn_inRound (fun i o c ho e => ?_) _ _ _ ?_)
        · have hmem : o ∈ ops.toList := by
            have : ops.toList[i]? = some o := by simpa using ho
            exact List.mem_of_getElem? this
          have := List.any_eq_false.1 hnd o hmem
          simp [isDefer, e] at this
        · have := seq_order (ops := ops) hi hx ops.toList 0 s h s' h' ρ a w (fun j => by simp) hr hat hdom (Q := Q) hQ
          rwa [Array.length_toList, ← List.range_eq_range'] at this
    | true => simp only [stepR] at he; cases he
  | seq x y =>
    simp only [stepR] at he
    split at he
    · rename_i s1 h1 h2
      have e1 := (hx.round _ _ _ _ _ _ h2).1
      have e2 := (hx.round _ _ _ _ _ _ he).1
      refine wpIn_seq (hi.round l x s h .normal s1 h1 h2 ρ a w hat (fun z z1 z2 => hdom z z1 (Nat.lt_of_lt_of_le z2 e2.next)) _ (fun ρ' a' w' r1 r2 => ?_))
      exact hi.round l y s1 h1 ex s' h' he ρ' a' w' r1 (dom_behind hdom r2.toExt) Q (fun ρ'' a'' w'' r3 r4 => hQ ρ'' a'' w'' r3 (r2.trans r4))
    · rename_i hne
      refine wpIn_seq (hi.round l x s h ex s' h' he ρ a w hat hdom _ (fun ρ' a' w' r1 r2 => ?_))
      have hq := hQ ρ' a' w' r1 r2
      cases ex with
      | normal => exact absurd he (hne s' h')
      | exit id => exact hq
      | ret => exact hq
  | cond c x y =>
    simp only [stepR] at he
    split at he
    · rename_i hc
      exact wpIn_cond_true (hat.tm.ev hc).bool (hi.round l x s h ex s' h' he ρ a w hat hdom Q hQ)
    · rename_i hc
      exact wpIn_cond_false (hat.tm.ev hc).bool (hi.round l y s h ex s' h' he ρ a w hat hdom Q hQ)
    · cases he
  | block id c =>
    simp only [stepR] at he
    split at he
    · rename_i id' s1 h1 h2
      rcases cond_or he with ⟨hb, he⟩ | ⟨hb, he⟩ <;> cases he
      · have hb' : id' = id := Nat.eq_of_beq_eq_true hb
        refine wpIn_block (hi.round l c s h (.exit id') s' h' h2 ρ a w hat hdom _ (fun ρ' a' w' r1 r2 => ?_))
        show (if id' = id then Q .normal a' w' else Q (.exit id') a' w')
        rw [if_pos hb']; exact hQ ρ' a' w' r1 r2
      · have hb' : ¬ id' = id := Nat.ne_of_beq_eq_false hb
        refine wpIn_block (hi.round l c s h (.exit id') s' h' h2 ρ a w hat hdom _ (fun ρ' a' w' r1 r2 => ?_))
        show (if id' = id then Q .normal a' w' else Q (.exit id') a' w')
        rw [if_neg hb']; exact hQ ρ' a' w' r1 r2
    · rename_i hne
      refine wpIn_block (hi.round l c s h ex s' h' he ρ a w hat hdom _ (fun ρ' a' w' r1 r2 => ?_))
      have hq := hQ ρ' a' w' r1 r2
      cases ex with
      | normal => exact hq
      | exit id' => exact absurd he (hne id' s' h')
      | ret => exact hq
  | loop c =>
    obtain ⟨m, hm'⟩ := rloop_sound (l := l) hi hx he
    exact wpIn_loop_rounds m (hm' ρ a w hat hdom Q hQ)

theorem stepE_sound (hm : P.follows .mixedOrders = true) (hi : Sound P ih) (hx : IhExt ih) : Sound P (stepE P ih) := by
  have code : ∀ c s h ex s' h', stepE P ih c s h = .ok (ex, s', h') → ∀ (ρ : Rho) (a : Act) (w : World), At ρ s h a w → (∀ x, h.next ≤ x → x < h'.next → ρ x = none) →
      ∀ Q : Exit → Act → World → Prop, (∀ ρ' a' w', At ρ' s' h' a' w' → XA ρ h a w ρ' h' a' w' → Q (exOf ex) a' w') →
        c.wpIn FW 0 P Q a w := by
    intro c s h ex s' h' he ρ a w hat hdom Q hQ
    have here : ∀ {e : AEx}, ex = e → s' = s → h' = h → Q (exOf e) a w := by
      intro e h1 h2 h3; subst h1; subst h2; subst h3; exact hQ ρ a w hat (XA.refl _ _ _ _)
    cases c with
    | skip => simp only [stepE] at he; cases he; exact wpIn_skip (here rfl rfl rfl)
    | label l => simp only [stepE] at he; cases he; exact wpIn_label (here rfl rfl rfl)
    | exit id => simp only [stepE] at he; cases he; exact wpIn_exit (here rfl rfl rfl)
    | ret => simp only [stepE] at he; cases he; exact wpIn_ret (here rfl rfl rfl)
    | scope c => simp only [stepE] at he; cases he
    | goto l => simp only [stepE] at he; cases he
    | rangeFunc g ps asg body =>
      simp only [stepE] at he
      split at he
      · rename_i f first cap hg
        split at he
        · rename_i v1 h1 hc
          have e1 := (afterA_ext he).1
          exact range_sound hi hx hg hc he hat (fun x x1 x2 => hdom x x1 (Nat.lt_of_lt_of_le x2 e1.next)) (callA_ext hx hc).next hQ
        · cases he
      · cases he
    | refuse w => simp only [stepE] at he; cases he
    | region id ops draw =>
      cases draw with
      | false =>
        simp only [stepE] at he
        split at he
        · cases he
        · rename_i s1 h1 hr
          cases he
          refine wpIn_region ?_
          have := seq_order (ops := ops) hi hx ops.toList 0 s h s' h' ρ a w (fun j => by simp) hr hat hdom (Q := Q) hQ
          rwa [Array.length_toList, ← List.range_eq_range'] at this
      | true =>
        simp only [stepE] at he
        have hst := (exc_false he).1
        replace he := (exc_false he).2
        split at he
        · cases he
        · rename_i sts hr
          have hdy := (exc_false he).1
          replace he := (exc_false he).2
          split at he
          · rename_i s1 h1 hl
            cases he
            obtain ⟨S, Hh, V, R, e1, e2, e3⟩ := run_of_trace hx hr hst hdy hat.wf
            rw [hl] at e3
            simp only [Option.some.injEq, Prod.mk.injEq] at e3
            obtain ⟨rfl, rfl⟩ := e3
            subst e1; subst e2
            refine wpIn_region_any hm ?_
            have hat' : At ρ (S 0) (Hh 0) a { w with drawn := w.drawn + 1 } := ⟨hat.tm, hat.hp.heap rfl, hat.wf, hat.df⟩
            obtain ⟨q, I⟩ := Inv.start R hat' hdom
            have hL : (fun (_ : Nat) => False) = (fun i => i < ops.size ∧ (Array.replicate ops.size false).getD i false = true) := by
              funext i
              apply propext
              constructor
              · exact False.elim
              · rintro ⟨h1, h2⟩
                rw [Array.getD_eq_getD_getElem?] at h2
                simp [Array.getElem?_replicate, h1] at h2
            rw [hL] at I
            refine any_order R hi hx (ρ0 := ρ) (w0 := { w with drawn := w.drawn + 1 }) (fun ρ' a' w' r1 r2 r3 => hQ ρ' a' w' r1 (.same ?_ r3)) ops.size _ q ρ a _ (by simp) (by simp [List.count_replicate]) I
            exact ⟨r2.sub, r2.dom, r2.keep, r2.keepM, r2.size, r2.next, r2.clk, r2.absf, r2.vers, r2.wf, Env.trans (b := { w with drawn := w.drawn + 1 }) ⟨rfl, rfl⟩ r2.env⟩
          · cases he
    | seq x y =>
      simp only [stepE] at he
      split at he
      · rename_i s1 h1 h2
        have e1 := (hx.code _ _ _ _ _ _ h2).1
        have e2 := (hx.code _ _ _ _ _ _ he).1
        refine wpIn_seq (hi.code x s h .normal s1 h1 h2 ρ a w hat (fun z z1 z2 => hdom z z1 (Nat.lt_of_lt_of_le z2 e2.next)) _ (fun ρ' a' w' r1 r2 => ?_))
        exact hi.code y s1 h1 ex s' h' he ρ' a' w' r1 (dom_behind hdom r2.toExt) Q (fun ρ'' a'' w'' r3 r4 => hQ ρ'' a'' w'' r3 (r2.trans r4))
      · rename_i hne
        refine wpIn_seq (hi.code x s h ex s' h' he ρ a w hat hdom _ (fun ρ' a' w' r1 r2 => ?_))
        have hq := hQ ρ' a' w' r1 r2
        cases ex with
        | normal => exact absurd he (hne s' h')
        | exit id => exact hq
        | ret => exact hq
    | cond c x y =>
      simp only [stepE] at he
      split at he
      · rename_i hc
        exact wpIn_cond_true (hat.tm.ev hc).bool (hi.code x s h ex s' h' he ρ a w hat hdom Q hQ)
      · rename_i hc
        exact wpIn_cond_false (hat.tm.ev hc).bool (hi.code y s h ex s' h' he ρ a w hat hdom Q hQ)
      · cases he
    | block id c =>
      simp only [stepE] at he
      split at he
      · rename_i id' s1 h1 h2
        rcases cond_or he with ⟨hb, he⟩ | ⟨hb, he⟩ <;> cases he
        · have hb' : id' = id := Nat.eq_of_beq_eq_true hb
          refine wpIn_block (hi.code c s h (.exit id') s' h' h2 ρ a w hat hdom _ (fun ρ' a' w' r1 r2 => ?_))
          show (if id' = id then Q .normal a' w' else Q (.exit id') a' w')
          rw [if_pos hb']; exact hQ ρ' a' w' r1 r2
        · have hb' : ¬ id' = id := Nat.ne_of_beq_eq_false hb
          refine wpIn_block (hi.code c s h (.exit id') s' h' h2 ρ a w hat hdom _ (fun ρ' a' w' r1 r2 => ?_))
          show (if id' = id then Q .normal a' w' else Q (.exit id') a' w')
          rw [if_neg hb']; exact hQ ρ' a' w' r1 r2
      · rename_i hne
        refine wpIn_block (hi.code c s h ex s' h' he ρ a w hat hdom _ (fun ρ' a' w' r1 r2 => ?_))
        have hq := hQ ρ' a' w' r1 r2
        cases ex with
        | normal => exact hq
        | exit id' => exact absurd he (hne id' s' h')
        | ret => exact hq
    | loop c =>
      obtain ⟨m, hm'⟩ := loop_sound hi hx he
      exact wpIn_loop_rounds m (hm' ρ a w hat hdom Q hQ)
  exact ⟨code, fun c s h ex s' h' he => loop_sound hi hx he, hi.call, stepR_sound hi hx, fun l c s h ex s' h' he => rloop_sound hi hx he⟩

/-- Calls that are known. -/
structure Knows (P : Program) (K : FuncId → List Value → H → Option (Value × H)) : Prop where
  ext : ∀ f args h v h', K f args h = some (v, h') → AExt h h'
  sem : ∀ f args h v h', K f args h = some (v, h') → SemCall P f args h v h'
theorem knows_none (P : Program) : Knows P noK := ⟨fun _ _ _ _ _ h => by simp [noK] at h, fun _ _ _ _ _ h => by simp [noK] at h⟩

theorem evalK_sound (hm : P.follows .mixedOrders = true) {K : FuncId → List Value → H → Option (Value × H)} (hK : Knows P K) : ∀ n, Sound P (evalK P K n)
  | 0 => ⟨fun c s h ex s' h' he => by simp [evalK] at he, fun c s h ex s' h' he => by simp [evalK] at he, hK.sem, fun l c s h ex s' h' he => by simp [evalK] at he, fun l c s h ex s' h' he => by simp [evalK] at he⟩
  | n + 1 => stepE_sound hm (evalK_sound hm hK n) (evalK_ext hK.ext n)
theorem eval_sound (hm : P.follows .mixedOrders = true) (n : Nat) : Sound P (eval P n) := evalK_sound hm (knows_none P) n

end
end Go.Proofs.YtdocmpnofklaoaaGreatDoor.Ev

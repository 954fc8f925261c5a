/- What the evaluator keeps, whatever it comes to: numbers rise, what was not written is as it was. -/
import Derived.Test.YtdocmpnofklaoaaGreatDoorEv11
namespace Go.Proofs.YtdocmpnofklaoaaGreatDoor.Ev
open Go
set_option linter.unusedSimpArgs false

theorem cond_or {α : Type} {b : Bool} {p q r : α} (h : (bif b then p else q) = r) : (b = true ∧ p = r) ∨ (b = false ∧ q = r) := by
  cases b <;> simp_all
theorem exc_false {α : Type} {y : α} {b : Bool} {p : Except String α} {e : String} (h : (bif b then p else .error e) = .ok y) : b = true ∧ p = .ok y := by
  cases b <;> simp_all

/-- Heaps alone: from one moment to a later one. -/
structure AExt (h h' : H) : Prop where
  next : h.next ≤ h'.next
  clk : h.clk ≤ h'.clk
  vers : ∀ a, a < h.next → h'.objs.get a = h.objs.get a ∨ ∃ c, h'.objs.get a = some c ∧ h.clk ≤ c.ver
  wf : WFH h → WFH h'

theorem AExt.refl (h : H) : AExt h h := ⟨Nat.le_refl _, Nat.le_refl _, fun _ _ => .inl rfl, id⟩
theorem AExt.trans {h h' h'' : H} (x : AExt h h') (y : AExt h' h'') : AExt h h'' := by
  refine ⟨Nat.le_trans x.next y.next, Nat.le_trans x.clk y.clk, fun a ha => ?_, fun hw => y.wf (x.wf hw)⟩
  rcases y.vers a (Nat.lt_of_lt_of_le ha x.next) with h1 | ⟨c, h1, h2⟩
  · rcases x.vers a ha with h3 | ⟨c, h3, h4⟩
    · exact .inl (h1.trans h3)
    · exact .inr ⟨c, h1.trans h3, h4⟩
  · exact .inr ⟨c, h1, Nat.le_trans x.clk h2⟩

theorem AExt.new (h : H) (o : AObj) : AExt h (h.new o) := by
  refine ⟨Nat.le_succ _, Nat.le_succ _, fun a ha => .inl (by simp [H.new, T.get_put, show a ≠ h.next by omega]), fun hw => ⟨fun a c hc => ?_, fun a c hc => ?_⟩⟩
  · simp only [H.new, T.get_put] at hc ⊢
    by_cases e : a = h.next
    · omega
    · rw [if_neg e] at hc; exact Nat.lt_succ_of_lt (hw.lt a c hc)
  · simp only [H.new, T.get_put] at hc ⊢
    by_cases e : a = h.next
    · rw [if_pos e] at hc; simp at hc; subst hc; exact Nat.lt_succ_self _
    · rw [if_neg e] at hc; exact Nat.lt_succ_of_lt (hw.ver a c hc)

theorem AExt.upd {h : H} {b : Nat} {ob : AObj} (o : AObj) (hb : h.obj b = some ob) : AExt h (h.upd b o) := by
  obtain ⟨cb, hcb, _⟩ := H.obj_some hb
  refine ⟨Nat.le_refl _, Nat.le_succ _, fun a ha => ?_, fun hw => ⟨fun a c hc => ?_, fun a c hc => ?_⟩⟩
  · by_cases e : a = b
    · subst e; exact .inr ⟨⟨h.clk, o⟩, by simp [H.upd, T.get_put], Nat.le_refl _⟩
    · exact .inl (by simp [H.upd, T.get_put, e])
  · simp only [H.upd, T.get_put] at hc
    by_cases e : a = b
    · subst e; exact hw.lt a cb hcb
    · rw [if_neg e] at hc; exact hw.lt a c hc
  · simp only [H.upd, T.get_put] at hc ⊢
    by_cases e : a = b
    · rw [if_pos e] at hc; simp at hc; subst hc; exact Nat.lt_succ_self _
    · rw [if_neg e] at hc; exact Nat.lt_succ_of_lt (hw.ver a c hc)

section
variable {P : Program} {s : Fr}

theorem storeN_ext {h h' : H} {b o : Nat} {vs : List Value} (hs : storeN h b o vs = some h') : AExt h h' := by
  unfold storeN at hs
  split at hs
  · simp at hs; subst hs; exact .refl h
  · split at hs
    · rename_i hb
      have := (opt_false hs).2
      simp at this; subst this
      exact .upd _ hb
    · simp at hs

theorem appendV_ext {t t1 : TypeId} {sv x v : Value} {h h' : H} (he : appendV P t t1 sv x h = some (v, h')) : AExt h h' := by
  unfold appendV at he
  split at he
  · replace he := (opt_false he).2
    split at he
    · replace he := (opt_false he).2
      split at he
      · simp at he
      · split at he
        · replace he := (opt_false he).2
          rcases cond_or he with ⟨_, he⟩ | ⟨_, he⟩
          · simp at he; rw [← he.2]; exact .refl h
          · replace he := (opt_false he).2
            simp at he; rw [← he.2]; exact .new _ _
        · split at he
          · simp at he
          · replace he := (opt_false he).2
            rcases cond_or he with ⟨_, he⟩ | ⟨_, he⟩
            · split at he
              · rename_i h2 hst
                simp at he; rw [← he.2]; exact storeN_ext hst
              · simp at he
            · replace he := (opt_false he).2
              split at he
              · rename_i hob
                replace he := (opt_false he).2
                simp only [Option.some.injEq, Prod.mk.injEq] at he
                rw [← he.2]
                generalize Nat.beq _ 1 = bb
                cases bb with
                | true => exact .new _ _
                | false => exact (AExt.upd _ hob).trans (.new _ _)
              · simp at he
    · simp at he
  · simp at he

theorem execE2_ext {op : Op} {h h' : H} {r : ANext} (he : execE2 P s h op = some r) (hr : (∃ v, r = .val v h') ∨ r = .skip h') : AExt h h' := by
  cases op with
  | call c =>
    simp only [execE2] at he
    split at he
    · split at he
      · split at he
        · generalize (Nat.beq _ _ && Nat.ble _ _) = bb at he
          cases bb with
          | true =>
            simp only [cond_true] at he
            split at he
            · split at he
              · rename_i hst
                simp at he; subst he; rcases hr with ⟨v, hr⟩ | hr <;> cases hr; exact storeN_ext hst
              · simp at he
            · simp at he
          | false =>
            simp only [cond_false] at he
            replace he := (opt_false he).2
            simp at he; subst he; rcases hr with ⟨v, hr⟩ | hr <;> cases hr; exact .refl _
        · simp at he
      · simp at he
    · split at he
      · rename_i hb
        simp at he; subst he; rcases hr with ⟨v, hr⟩ | hr <;> cases hr; exact .upd _ hb
      · simp at he
    · simp at he
  | range t x =>
    simp only [execE2] at he
    split at he
    · simp at he; subst he; rcases hr with ⟨v, hr⟩ | hr <;> cases hr; exact .new _ _
    · simp at he; subst he; rcases hr with ⟨v, hr⟩ | hr <;> cases hr; exact .new _ _
    · split at he
      · simp at he; subst he; rcases hr with ⟨v, hr⟩ | hr <;> cases hr; exact .new _ _
      · simp at he
    · simp at he
  | next x str =>
    simp only [execE2] at he
    split at he
    · replace he := (opt_false he).2
      split at he
      · rename_i hb
        rcases cond_or he with ⟨_, he⟩ | ⟨_, he⟩ <;> simp at he <;> subst he <;> rcases hr with ⟨v, hr⟩ | hr <;> cases hr
        · exact .upd _ hb
        · exact .refl _
      · simp at he; subst he; rcases hr with ⟨v, hr⟩ | hr <;> cases hr; exact .refl _
      · rename_i hb
        split at he
        · split at he
          · simp at he; subst he; rcases hr with ⟨v, hr⟩ | hr <;> cases hr; exact .upd _ hb
          · simp at he; subst he; rcases hr with ⟨v, hr⟩ | hr <;> cases hr; exact .refl _
          · simp at he
        · simp at he
      · simp at he
    · simp at he
  | _ => simp [execE2] at he

theorem execE_ext {op : Op} {h h' : H} {r : ANext} (he : execE P s h op = some r) (hr : (∃ v, r = .val v h') ∨ r = .skip h') : AExt h h' := by
  cases op with
  | store t x y =>
    simp only [execE] at he
    split at he
    · split at he
      · replace he := (opt_false he).2
        split at he
        · rename_i h2 hs
          simp at he; subst he
          rcases hr with ⟨v, hr⟩ | hr
          · cases hr
          · cases hr; exact storeN_ext hs
        · simp at he
      · simp at he
    · simp at he
  | mapUpdate t x k y =>
    simp only [execE, mapUpd] at he
    split at he
    · split at he
      · rename_i hb
        replace he := (opt_false he).2
        split at he <;> simp at he <;> subst he <;> rcases hr with ⟨v, hr⟩ | hr <;> cases hr <;> exact .upd _ hb
      · simp at he
    · simp at he
  | insert t x k y =>
    simp only [execE, mapUpd] at he
    split at he
    · split at he
      · rename_i hb
        replace he := (opt_false he).2
        split at he <;> simp at he <;> subst he <;> rcases hr with ⟨v, hr⟩ | hr <;> cases hr <;> exact .upd _ hb
      · simp at he
    · simp at he
  | call c =>
    cases hcal : c.callee with
    | value f =>
      simp only [execE, hcal] at he
      split at he
      · simp at he; subst he; rcases hr with ⟨v, hr⟩ | hr <;> cases hr
      · simp at he
    | invoke r m => simp only [execE, hcal] at he; exact execE2_ext he hr
    | builtin b =>
      cases b with
      | append =>
        simp only [execE, hcal] at he
        split at he
        · split at he
          · rename_i v h2 hap
            simp at he; subst he
            rcases hr with ⟨v, hr⟩ | hr
            · cases hr; exact appendV_ext hap
            · cases hr
          · simp at he
        · simp at he
      | delete =>
        simp only [execE, hcal] at he
        split at he
        · split at he
          · rename_i hb
            split at he
            · replace he := (opt_false he).2
              split at he <;> simp at he <;> subst he <;> rcases hr with ⟨v, hr⟩ | hr <;> cases hr
              · exact .upd _ hb
              · exact .refl _
            · simp at he
          · simp at he
        · simp at he
      | _ => simp only [execE, hcal] at he; exact execE2_ext he hr
  | _ => simp only [execE] at he; exact execE2_ext he hr

theorem exec_ext {op : Op} {h h' : H} {r : ANext} (he : exec P s h op = some r) (hr : (∃ v, r = .val v h') ∨ r = .skip h') : AExt h h' := by
  unfold exec at he
  split at he
  · split at he
    · simp at he; subst he
      rcases hr with ⟨v, hr⟩ | hr <;> cases hr
      exact .refl _
    · simp at he
  · split at he
    · simp at he; subst he
      rcases hr with ⟨v, hr⟩ | hr <;> cases hr
      exact .new _ _
    · simp at he
  · split at he
    · simp at he; subst he
      rcases hr with ⟨v, hr⟩ | hr <;> cases hr
      exact .refl _
    · simp at he
  · exact execE_ext he hr

/-- Whatever code comes to, it leaves a later heap, and a frame of the same size. -/
structure IhExt (ih : Ih) : Prop where
  code : ∀ c s h ex s' h', ih c s h = .ok (ex, s', h') → AExt h h' ∧ s'.nt = s.nt
  call : ∀ f args h v h', ih.k f args h = some (v, h') → AExt h h'
  round : ∀ c s h ex s' h', ih.r c s h = .ok (ex, s', h') → AExt h h' ∧ s'.nt = s.nt

theorem opsRunS_ext {all : Array Oper} : ∀ {l : List Oper} {s : Fr} {h : H} {s' : Fr} {h' : H}, opsRunS P all l s h = .ok (s', h') → AExt h h' ∧ s'.nt = s.nt
  | [], s, h, s', h', he => by simp only [opsRunS] at he; cases he; exact ⟨.refl _, rfl⟩
  | o :: l, s, h, s', h', he => by
    simp only [opsRunS] at he
    replace he := (exc_false he).2
    rcases cond_or he with ⟨_, he⟩ | ⟨_, he⟩
    · rcases cond_or he with ⟨_, he⟩ | ⟨_, he⟩
      · split at he
        · rename_i hs
          obtain ⟨h2, h3⟩ := opsRunS_ext he
          exact ⟨h2, h3.trans (Fr.put_nt hs)⟩
        · cases he
      · split at he
        · rename_i hx
          split at he
          · rename_i hs
            obtain ⟨h2, h3⟩ := opsRunS_ext he
            exact ⟨(exec_ext hx (.inl ⟨_, rfl⟩)).trans h2, h3.trans (Fr.put_nt hs)⟩
          · cases he
        · rename_i hx
          split at he
          · rename_i hs
            obtain ⟨h2, h3⟩ := opsRunS_ext he
            exact ⟨(exec_ext hx (.inr rfl)).trans h2, h3.trans (Fr.put_nt hs)⟩
          · cases he
        · cases he
    · split at he
      · rename_i hs
        obtain ⟨h2, h3⟩ := opsRunS_ext he
        exact ⟨h2, h3.trans (Fr.put_nt hs)⟩
      · cases he

theorem evalS_ext {ih : Ih} (hi : IhExt ih) : ∀ (c : Code) {s : Fr} {h : H} {ex : AEx} {s' : Fr} {h' : H}, evalS P ih c s h = .ok (ex, s', h') → AExt h h' ∧ s'.nt = s.nt
  | .seq a b, s, h, ex, s', h', he => by
    simp only [evalS] at he
    split at he
    · rename_i ha
      obtain ⟨h1, h2⟩ := evalS_ext hi a ha
      obtain ⟨h3, h4⟩ := evalS_ext hi b he
      exact ⟨h1.trans h3, h4.trans h2⟩
    · exact evalS_ext hi a he
  | .cond c x y, s, h, ex, s', h', he => by
    simp only [evalS] at he
    split at he
    · exact evalS_ext hi x he
    · exact evalS_ext hi y he
    · cases he
  | .region _ ops false, s, h, ex, s', h', he => by
    simp only [evalS] at he
    split at he
    · cases he
    · rename_i hr; cases he; exact opsRunS_ext hr
  | .region _ ops true, s, h, ex, s', h', he => hi.code _ _ _ _ _ _ (by simpa only [evalS] using he)
  | .skip, s, h, ex, s', h', he => hi.code _ _ _ _ _ _ (by simpa only [evalS] using he)
  | .label _, s, h, ex, s', h', he => hi.code _ _ _ _ _ _ (by simpa only [evalS] using he)
  | .block _ _, s, h, ex, s', h', he => hi.code _ _ _ _ _ _ (by simpa only [evalS] using he)
  | .loop _, s, h, ex, s', h', he => hi.code _ _ _ _ _ _ (by simpa only [evalS] using he)
  | .exit _, s, h, ex, s', h', he => hi.code _ _ _ _ _ _ (by simpa only [evalS] using he)
  | .ret, s, h, ex, s', h', he => hi.code _ _ _ _ _ _ (by simpa only [evalS] using he)
  | .scope _, s, h, ex, s', h', he => hi.code _ _ _ _ _ _ (by simpa only [evalS] using he)
  | .goto _, s, h, ex, s', h', he => hi.code _ _ _ _ _ _ (by simpa only [evalS] using he)
  | .rangeFunc _ _ _ _, s, h, ex, s', h', he => hi.code _ _ _ _ _ _ (by simpa only [evalS] using he)
  | .refuse _, s, h, ex, s', h', he => hi.code _ _ _ _ _ _ (by simpa only [evalS] using he)

theorem callD_ext {ih : Ih} (hi : IhExt ih) {f : FuncId} {args : List Value} {h h' : H} (he : callD P ih f args h = .ok h') : AExt h h' := by
  unfold callD at he
  split at he
  · cases he
  · split at he
    · cases he
    · replace he := (exc_false he).2
      split at he
      · cases he
      · cases he
      · rename_i hb
        split at he
        · cases he; exact (evalS_ext hi _ hb).1
        · cases he

theorem runDefers_ext {ih : Ih} (hi : IhExt ih) : ∀ {ds : List (Option (FuncId × List Value))} {h h' : H}, runDefers P ih ds h = .ok h' → AExt h h'
  | [], h, h', he => by simp only [runDefers] at he; cases he; exact .refl _
  | none :: ds, h, h', he => by simp only [runDefers] at he; exact runDefers_ext hi he
  | some d :: ds, h, h', he => by
    simp only [runDefers] at he
    split at he
    · cases he
    · rename_i hd; exact (callD_ext hi hd).trans (runDefers_ext hi he)

theorem callA_ext {ih : Ih} (hi : IhExt ih) {f : FuncId} {args : List Value} {h h' : H} {v : Value} (he : callA P ih f args h = .ok (v, h')) : AExt h h' := by
  unfold callA at he
  split at he
  · rename_i hk
    cases he
    exact hi.call _ _ _ _ _ hk
  split at he
  · cases he
  · split at he
    · cases he
    · replace he := (exc_false he).2
      split at he
      · cases he
      · cases he
      · rename_i hb
        split at he
        · cases he
        · rename_i hd
          split at he
          · cases he; exact (hi.code _ _ _ _ _ _ hb).1.trans (runDefers_ext hi hd)
          · cases he

theorem opV_ext {ih : Ih} (hi : IhExt ih) {all : Array Oper} {o : Oper} {h h' : H} {v : Value} (he : opV P ih all o s h = .ok (v, h')) : AExt h h' := by
  unfold opV at he
  replace he := (exc_false he).2
  rcases cond_or he with ⟨_, he⟩ | ⟨_, he⟩
  · split at he
    · cases he
    · rename_i hx; cases he; exact exec_ext hx (.inl ⟨_, rfl⟩)
    · rename_i hx; cases he; exact exec_ext hx (.inr rfl)
    · split at he
      · cases he; exact .refl _
      · exact callA_ext hi he
  · cases he; exact .refl _

theorem endA_ext {b : Nat} {ex : AEx} {h h' : H} {v : Value} (he : endA b ex h = .ok (v, h')) : AExt h h' := by
  unfold endA at he
  split at he
  · rename_i hb
    split at he <;> cases he <;> exact .upd _ hb
  · cases he

theorem beginA_ext {ih : Ih} (hi : IhExt ih) {y : YC} {h h' : H} {v : Value} (he : beginA ih y s h = .ok (v, h')) : AExt h h' := by
  unfold beginA at he
  split at he
  · rename_i hb
    split at he
    · rename_i hr
      exact ((AExt.upd _ hb).trans (hi.round _ _ _ _ _ _ hr).1).trans (endA_ext he)
    · cases he
  · cases he

theorem roundA_ext {ih : Ih} (hi : IhExt ih) {y : YC} {h h' : H} {v : Value} (he : roundA ih y h = .ok (v, h')) : AExt h h' := by
  unfold roundA at he
  split at he
  · cases he
  · split at he
    · rename_i hr
      exact (hi.round _ _ _ _ _ _ hr).1.trans (beginA_ext hi he)
    · cases he
    · cases he

theorem opY_ext {ih : Ih} (hi : IhExt ih) {all : Array Oper} {o : Oper} {h h' : H} {v : Value} (he : opY P ih all o s h = .ok (v, h')) : AExt h h' := by
  unfold opY at he
  split at he
  · exact opV_ext hi he
  · rcases cond_or he with ⟨_, he⟩ | ⟨_, he⟩
    · exact roundA_ext hi he
    · exact opV_ext hi he

theorem afterA_ext {s : Fr} {b : Nat} {h : H} {ex : AEx} {s' : Fr} {h' : H} (he : afterA s b h = .ok (ex, s', h')) : AExt h h' ∧ s'.nt = s.nt := by
  unfold afterA at he
  split at he
  · cases he
  · rename_i hb
    split at he <;> cases he <;> exact ⟨.upd _ hb, rfl⟩
  · cases he

theorem opsRun_ext {ih : Ih} (hi : IhExt ih) {all : Array Oper} : ∀ {l : List Oper} {s : Fr} {h : H} {s' : Fr} {h' : H}, opsRun P ih all l s h = .ok (s', h') → AExt h h' ∧ s'.nt = s.nt
  | [], s, h, s', h', he => by simp only [opsRun] at he; cases he; exact ⟨.refl _, rfl⟩
  | o :: l, s, h, s', h', he => by
    simp only [opsRun] at he
    split at he
    · have hr := opsRun_ext hi (exc_false he).2
      exact hr
    · split at he
      · cases he
      · rename_i v h1 hv
        split at he
        · cases he
        · rename_i s1 hs
          obtain ⟨h2, h3⟩ := opsRun_ext hi he
          exact ⟨(opY_ext hi hv).trans h2, h3.trans (Fr.put_nt hs)⟩

theorem opsTrace_ext {ih : Ih} (hi : IhExt ih) {all : Array Oper} : ∀ {l : List Oper} {s : Fr} {h : H} {r : List (Fr × H)}, opsTrace P ih all l s h = .ok r → ∀ x, r.getLast? = some x → AExt h x.2 ∧ x.1.nt = s.nt
  | [], s, h, r, he => by simp only [opsTrace] at he; cases he; intro x hx; simp at hx; subst hx; exact ⟨.refl _, rfl⟩
  | o :: l, s, h, r, he => by
    simp only [opsTrace] at he
    split at he
    · cases he
    · rename_i v h1 hv
      split at he
      · cases he
      · rename_i s1 hs
        split at he
        · cases he
        · rename_i r1 hr
          cases he
          intro x hx
          have hne : r1 ≠ [] := by
            cases l with
            | nil => simp only [opsTrace] at hr; cases hr; simp
            | cons o2 l2 =>
              simp only [opsTrace] at hr
              split at hr
              · cases hr
              · split at hr
                · cases hr
                · split at hr
                  · cases hr
                  · cases hr; simp
          have hx' : r1.getLast? = some x := by
            rw [List.getLast?_cons] at hx
            cases hr1 : r1.getLast? with
            | none => exact absurd (List.getLast?_eq_none_iff.1 hr1) hne
            | some y => rw [hr1] at hx; simpa using hx
          obtain ⟨h2, h3⟩ := opsTrace_ext hi hr x hx'
          exact ⟨(opV_ext hi hv).trans h2, h3.trans (Fr.put_nt hs)⟩

theorem stepR_ext {ih : Ih} (hi : IhExt ih) : ∀ c s h ex s' h', stepR P ih c s h = .ok (ex, s', h') → AExt h h' ∧ s'.nt = s.nt := by
  intro c s h ex s' h' he
  cases c with
  | skip => simp only [stepR] at he; cases he; exact ⟨.refl _, rfl⟩
  | label l => simp only [stepR] at he; cases he; exact ⟨.refl _, rfl⟩
  | region id ops draw =>
    cases draw with
    | false =>
      simp only [stepR] at he
      rcases cond_or he with ⟨_, he⟩ | ⟨_, he⟩
      · cases he
      · split at he
        · cases he
        · rename_i hr; cases he; exact opsRun_ext hi hr
    | true => simp only [stepR] at he; cases he
  | seq a b =>
    simp only [stepR] at he
    split at he
    · rename_i ha
      obtain ⟨h1, h2⟩ := hi.round _ _ _ _ _ _ ha
      obtain ⟨h3, h4⟩ := hi.round _ _ _ _ _ _ he
      exact ⟨h1.trans h3, h4.trans h2⟩
    · exact hi.round _ _ _ _ _ _ he
  | cond c x y =>
    simp only [stepR] at he
    split at he
    · exact hi.round _ _ _ _ _ _ he
    · exact hi.round _ _ _ _ _ _ he
    · cases he
  | block id c =>
    simp only [stepR] at he
    split at he
    · rename_i ha
      rcases cond_or he with ⟨_, he⟩ | ⟨_, he⟩ <;> cases he <;> exact hi.round _ _ _ _ _ _ ha
    · exact hi.round _ _ _ _ _ _ he
  | loop c =>
    simp only [stepR] at he
    split at he
    · rename_i ha
      obtain ⟨h1, h2⟩ := hi.round _ _ _ _ _ _ ha
      obtain ⟨h3, h4⟩ := hi.round _ _ _ _ _ _ he
      exact ⟨h1.trans h3, h4.trans h2⟩
    · exact hi.round _ _ _ _ _ _ he
  | exit id => simp only [stepR] at he; cases he; exact ⟨.refl _, rfl⟩
  | ret => simp only [stepR] at he; cases he; exact ⟨.refl _, rfl⟩
  | scope c => simp only [stepR] at he; cases he
  | goto l => simp only [stepR] at he; cases he
  | rangeFunc g p a b => simp only [stepR] at he; cases he
  | refuse w => simp only [stepR] at he; cases he

theorem stepE_ext {ih : Ih} (hi : IhExt ih) : IhExt (stepE P ih) := by
  refine ⟨?_, hi.call, stepR_ext hi⟩
  intro c s h ex s' h' he
  cases c with
  | skip => simp only [stepE] at he; cases he; exact ⟨.refl _, rfl⟩
  | label l => simp only [stepE] at he; cases he; exact ⟨.refl _, rfl⟩
  | region id ops draw =>
    cases draw with
    | false =>
      simp only [stepE] at he
      split at he
      · cases he
      · rename_i hr; cases he; exact opsRun_ext hi hr
    | true =>
      simp only [stepE] at he
      replace he := (exc_false he).2
      split at he
      · cases he
      · rename_i sts hr
        replace he := (exc_false he).2
        split at he
        · rename_i hl; cases he; exact opsTrace_ext hi hr _ hl
        · cases he
  | seq a b =>
    simp only [stepE] at he
    split at he
    · rename_i ha
      obtain ⟨h1, h2⟩ := hi.code _ _ _ _ _ _ ha
      obtain ⟨h3, h4⟩ := hi.code _ _ _ _ _ _ he
      exact ⟨h1.trans h3, h4.trans h2⟩
    · exact hi.code _ _ _ _ _ _ he
  | cond c x y =>
    simp only [stepE] at he
    split at he
    · exact hi.code _ _ _ _ _ _ he
    · exact hi.code _ _ _ _ _ _ he
    · cases he
  | block id c =>
    simp only [stepE] at he
    split at he
    · rename_i ha
      rcases cond_or he with ⟨_, he⟩ | ⟨_, he⟩ <;> cases he <;> exact hi.code _ _ _ _ _ _ ha
    · exact hi.code _ _ _ _ _ _ he
  | loop c =>
    simp only [stepE] at he
    split at he
    · rename_i ha
      obtain ⟨h1, h2⟩ := hi.code _ _ _ _ _ _ ha
      obtain ⟨h3, h4⟩ := hi.code _ _ _ _ _ _ he
      exact ⟨h1.trans h3, h4.trans h2⟩
    · exact hi.code _ _ _ _ _ _ he
  | exit id => simp only [stepE] at he; cases he; exact ⟨.refl _, rfl⟩
  | ret => simp only [stepE] at he; cases he; exact ⟨.refl _, rfl⟩
  | scope c => simp only [stepE] at he; cases he
  | goto l => simp only [stepE] at he; cases he
  | rangeFunc g p a b =>
    simp only [stepE] at he
    split at he
    · split at he
      · rename_i hc
        obtain ⟨q1, q2⟩ := afterA_ext he
        exact ⟨((AExt.new h _).trans (callA_ext hi hc)).trans q1, q2⟩
      · cases he
    · cases he
  | refuse w => simp only [stepE] at he; cases he

theorem evalK_ext {K : FuncId → List Value → H → Option (Value × H)} (hK : ∀ f args h v h', K f args h = some (v, h') → AExt h h') : ∀ n, IhExt (evalK P K n)
  | 0 => ⟨fun _ _ _ _ _ _ he => (by cases he), hK, fun _ _ _ _ _ _ he => (by cases he)⟩
  | n + 1 => stepE_ext (evalK_ext hK n)
theorem eval_ext (n : Nat) : IhExt (eval P n) := evalK_ext (fun _ _ _ _ _ hk => by cases hk) n

end
end Go.Proofs.YtdocmpnofklaoaaGreatDoor.Ev

/- append. -/
import Derived.Test.YtdocmpnofklaoaaGreatDoorEv9b
namespace Go.Proofs.YtdocmpnofklaoaaGreatDoor.Ev
open Go
set_option linter.unusedSimpArgs false

section
variable {P : Program} {ρ : Rho} {s : Fr} {a : Act} {g : Nat → Option AObj}

theorem cond_both {α : Type} {b : Bool} {p q : Option α} {x : α} (h : (bif b then p else q) = some x) : (b = true ∧ p = some x) ∨ (b = false ∧ q = some x) := by
  cases b <;> simp_all

theorem append_room {t t1 ty e : TypeId} {d1 : TypeDesc} {z n sLen sCap : Nat} {base : Option Addr} {x : Value} {ats : Array TypeId} {new : Array Value} {w : World}
    (ha0 : ats[0]? = some t) (ha1 : ats[1]? = some t1) (ht : P.underlying t = some (.slice e)) (hd1 : P.underlying t1 = some d1) (hni : notInt d1 = true) (hz : sizeO P e = some z)
    (hlen : (Builtin.lenOf x).run P w = .ok n w) (hfc : (Builtin.firstCells z n x).run P w = .ok new w) (hle : sLen + n ≤ sCap) :
    (Builtin.append_ ats ty #[.slice base sLen sCap, x]).run P w = (match base with
      | none => .ok (.slice base (sLen + n) sCap) w
      | some b => ((storeCells (b.add (sLen * z)) new.toList).run P w).andThen fun _ w' => .ok (.slice base (sLen + n) sCap) w') := by
  unfold Builtin.append_
  simp only [ha0, ha1, List.getElem?_toArray, List.getElem?_cons_zero, List.getElem?_cons_succ, Sem.run_bind, run_under ht, Result.andThen_ok, sizeO_run hz, run_under hd1, Sem.run_pure]
  cases d1 <;> first
    | (simp [notInt] at hni; done)
    | (simp only [Bool.false_eq_true, if_false, hlen, Result.andThen_ok, Bool.not_false, if_true, hle, Sem.run_bind, hfc]; cases base <;> simp; done)

theorem append_grow {t t1 ty e : TypeId} {d1 : TypeDesc} {i : TypeInfo} {zero : Value} {n sLen sCap : Nat} {base : Option Addr} {x : Value} {ats : Array TypeId} {old new : Array Value} {w : World}
    (ha0 : ats[0]? = some t) (ha1 : ats[1]? = some t1) (ht : P.underlying t = some (.slice e)) (hd1 : P.underlying t1 = some d1) (hni : notInt d1 = true) (hi : P.info? e = some i) (hzero : i.zero = some zero)
    (hlen : (Builtin.lenOf x).run P w = .ok n w) (hfc : (Builtin.firstCells i.size n x).run P w.drew = .ok new w.drew) (hold : (Builtin.firstCells i.size sLen (.slice base sLen sCap)).run P w.drew = .ok old w.drew)
    (hgt : sCap < sLen + n) (h40 : sLen + n ≤ 1099511627776) (hb : (sLen + n) * i.bytes ≤ 140737488355328) :
    (Builtin.append_ ats ty #[.slice base sLen sCap, x]).run P w = .ok (.slice (some ⟨w.heap.size, 0, none⟩) (sLen + n) (grownCap w (sLen + n) sCap e))
      (w.drew.alloc (.cells (old ++ new ++ Builtin.zeroCells zero.cells (grownCap w (sLen + n) sCap e - (sLen + n))) e)) := by
  have h1 : ¬ (sLen + n ≤ sCap) := by omega
  have h2 : ¬ (9223372036854775807 < ((sLen : Int) + (n : Int))) := by omega
  have h3 : ¬ (281474976710656 < Builtin.nextslicecap (sLen + n) sCap * i.bytes) := by
    have := growslice_fits (bytes := i.bytes) hgt hb; omega
  have h2' : ∀ p : Prop, ¬ (((sLen + n : Nat) : Int) > IntKind.max .i64 ∧ p) := by
    intro p hh
    have : IntKind.max .i64 = 9223372036854775807 := by decide
    rw [this] at hh; have := hh.1; omega
  unfold Builtin.append_
  simp only [ha0, ha1, List.getElem?_toArray, List.getElem?_cons_zero, List.getElem?_cons_succ, Sem.run_bind, run_under ht, Result.andThen_ok, sizeOf, run_info hi, run_under hd1, Sem.run_pure]
  cases d1 <;> first
    | (simp [notInt] at hni; done)
    | (simp only [Bool.false_eq_true, if_false, hlen, Result.andThen_ok, Bool.not_false, if_true, h1, Sem.run_bind, run_info hi, h2', if_neg h3, Sem.run_pure, run_choose, Question.forced, run_askRoom, World.drew_eq, hold, hfc, zeroValue, hzero, newRow, run_newObj, grownCap]
       rfl)

theorem firstCells_slice {w : World} {b : BI} {o n z : Nat} {vs : List Value} {m c : Nat} (hl : vs.length = n * z) (h : ∀ (j : Nat) v, vs[j]? = some v → w.cell? ⟨b.b, o + j, none⟩ = some v) :
    (Builtin.firstCells z n (.slice (some ⟨b.b, o, none⟩) m c)).run P w = .ok vs.toArray w := by
  simp only [Builtin.firstCells]
  rw [← hl]
  exact run_loadList h

theorem cell_drew {w : World} {x : Addr} : w.drew.cell? x = w.cell? x := rfl

theorem newOf_sim {h : H} {w : World} {z m : Nat} {x x' : Value} {new : List Value} (hn : newOf h z x = some (m, new)) (hx : VR ρ x x') (hg : HR ρ h.obj w) (hz1 : 1 ≤ z) :
    (∀ w', (Builtin.lenOf x').run P w' = .ok m w') ∧ new.length = m * z ∧ ∃ new', VRs ρ new new' ∧ (Builtin.firstCells z m x').run P w = .ok new'.toArray w ∧ (Builtin.firstCells z m x').run P w.drew = .ok new'.toArray w.drew := by
  unfold newOf at hn
  split at hn
  · rename_i b m1 c
    split at hn
    · rename_i vs hvs
      simp at hn; obtain ⟨rfl, rfl⟩ := hn
      cases hx with
      | atom hh => simp [okAtom] at hh
      | slice h1 h2 h3 h4 h5 h6 h7 =>
        rename_i i sp c' o'
        obtain ⟨hl, vs', hr, hc⟩ := loadN_sim hvs h1 hg
        refine ⟨fun w' => by simp [Builtin.lenOf], hl, vs', hr, ?_⟩
        have hl' : vs'.length = m1 * z := by rw [← hr.length, hl]
        by_cases hm : m1 = 0
        · subst hm
          simp only [Nat.zero_mul] at hl'
          have : vs' = [] := List.eq_nil_of_length_eq_zero hl'
          subst this
          simp [Builtin.firstCells, loadCells, loadCellsFrom]
        · have ho := h6 (by omega)
          subst ho
          exact ⟨firstCells_slice hl' hc, firstCells_slice hl' (fun j v hj => hc j v hj)⟩
    · simp at hn
  · rename_i m1 c
    obtain ⟨hb, hn⟩ := opt_false hn
    simp at hb hn
    obtain ⟨rfl, rfl⟩ := hn
    subst hb
    obtain rfl := hx.sliceNone
    exact ⟨fun w' => by simp [Builtin.lenOf], by simp, [], .nil, by simp [Builtin.firstCells], by simp [Builtin.firstCells]⟩
  · rename_i b
    obtain ⟨hb, hn⟩ := opt_false hn
    simp at hb hn
    obtain ⟨rfl, rfl⟩ := hn
    subst hb
    obtain rfl := hx.string
    have hbs : b.data.size = b.size := rfl
    have hex : (b.extract 0 b.size).data = b.data := by
      have h1 : (b.extract 0 b.size).data = b.data.extract 0 b.data.size := ByteArray.data_extract
      rw [h1, Array.extract_size]
    refine ⟨fun w' => by simp [Builtin.lenOf], by simp [hbs], b.data.toList.map fun u => Value.int .u8 u.toNat, VRs.atoms (List.all_eq_true.2 fun v hv => by obtain ⟨u, _, rfl⟩ := List.mem_map.1 hv; rfl), ?_, ?_⟩ <;>
    · simp only [Builtin.firstCells, hex, Sem.run_pure]
      congr 1
      apply Array.ext'
      simp
  · simp at hn

/-- A live row is given up, and a new one lies in its block or in a new one. -/
theorem ext_moved {h : H} {w w' : World} {b : Nat} {i : BI} {ob : AObj} {m off : Nat} {cs : T Value} {e : TypeId} (hi : ρ b = some i) (hb : h.obj b = some ob) (hm : ob.mut = true) (hg : HR ρ h.obj w) (hwf : WFH h)
    (hn : ρ h.next = none) (ho : OR (Upd ρ h.next ⟨i.b, off, i.N⟩) ⟨i.b, off, i.N⟩ (.row m cs e) w'.heap[i.b]?) (hx : ∀ x, x ≠ i.b → w'.heap[x]? = w.heap[x]?) (hsz : w'.heap.size = w.heap.size ∧ Env w w') :
    HR (Upd ρ h.next ⟨i.b, off, i.N⟩) ((h.upd b .dead).new (.row m cs e)).obj w' ∧ Ext ρ h w (Upd ρ h.next ⟨i.b, off, i.N⟩) ((h.upd b .dead).new (.row m cs e)) w' := by
  have hl := AObj.mut_live hm
  have hs := Upd.sub (ρ := ρ) ⟨i.b, off, i.N⟩ hn
  have hbn : b ≠ h.next := fun e => by subst e; rw [hi] at hn; simp at hn
  have hold : ∀ a j, Upd ρ h.next ⟨i.b, off, i.N⟩ a = some j → a ≠ h.next → ρ a = some j := by
    intro a j h1 h2; simpa [Upd, h2] using h1
  have hnew : ∀ j, Upd ρ h.next ⟨i.b, off, i.N⟩ h.next = some j → j = ⟨i.b, off, i.N⟩ := by
    intro j h1; rw [Upd.same] at h1; simpa using h1.symm
  have hobj : ∀ a, ((h.upd b .dead).new (.row m cs e)).obj a = if a = h.next then some (.row m cs e) else if a = b then some .dead else h.obj a := by
    intro a; rw [H.obj_new, H.obj_upd]; rfl
  refine ⟨⟨fun a j oo hj hoo => ?_, fun a a' i1 i2 o1 o2 h1 h2 h3 h4 h5 h6 h7 => ?_, fun a j hj => ?_⟩, ?_⟩
  · rw [hobj] at hoo
    by_cases e1 : a = h.next
    · subst e1; rw [if_pos rfl] at hoo; simp at hoo; subst hoo; obtain rfl := hnew j hj; exact ho
    · rw [if_neg e1] at hoo
      have hj' := hold a j hj e1
      by_cases e2 : a = b
      · rw [if_pos e2] at hoo; simp at hoo; subst hoo; trivial
      · rw [if_neg e2] at hoo
        cases hlo : oo.live with
        | false => cases oo <;> simp [AObj.live] at hlo; trivial
        | true =>
          rw [hx j.b (fun e' => e2 ((hg.inj b a i j ob oo hi hj' hb hoo hm hlo e'.symm).symm))]
          exact (hg.obj a j oo hj' hoo).mono hs
  · rw [hobj] at h3 h4
    have hlive : ∀ x j oo, Upd ρ h.next ⟨i.b, off, i.N⟩ x = some j → x ≠ h.next → (if x = b then some AObj.dead else h.obj x) = some oo → oo.live = true → ρ x = some j ∧ h.obj x = some oo ∧ x ≠ b := by
      intro x j oo k1 k2 k3 k4
      by_cases e2 : x = b
      · rw [if_pos e2] at k3; simp at k3; subst k3; simp [AObj.live] at k4
      · rw [if_neg e2] at k3; exact ⟨hold x j k1 k2, k3, e2⟩
    by_cases e1 : a = h.next <;> by_cases e1' : a' = h.next
    · rw [e1, e1']
    · subst e1; obtain rfl := hnew i1 h1
      rw [if_neg e1'] at h4
      obtain ⟨k1, k2, k3⟩ := hlive a' i2 o2 h2 e1' h4 h6
      exact absurd (hg.inj b a' i i2 ob o2 hi k1 hb k2 hm h6 h7).symm k3
    · subst e1'; obtain rfl := hnew i2 h2
      rw [if_neg e1] at h3
      obtain ⟨k1, k2, k3⟩ := hlive a i1 o1 h1 e1 h3 (AObj.mut_live h5)
      exact absurd (hg.inj a b i1 i o1 ob k1 hi k2 hb h5 hl h7) k3
    · rw [if_neg e1] at h3; rw [if_neg e1'] at h4
      obtain ⟨k1, k2, _⟩ := hlive a i1 o1 h1 e1 h3 (AObj.mut_live h5)
      obtain ⟨k1', k2', _⟩ := hlive a' i2 o2 h2 e1' h4 h6
      exact hg.inj a a' i1 i2 o1 o2 k1 k1' k2 k2' h5 h6 h7
  · rw [hsz.1]
    by_cases e1 : a = h.next
    · subst e1; obtain rfl := hnew j hj; exact hg.lt b i hi
    · exact hg.lt a j (hold a j hj e1)
  · refine ⟨hs, fun a h1 h2 => ?_, fun x hlt hf => ⟨hx x (fun e' => hf b i ob hi hb hl e'.symm), fun a j oo hj hoo hlo => ?_⟩, fun x hlt hf => ⟨hx x (fun e' => hf b i ob hi hb hm e'.symm), fun a j oo hj hoo hlo => ?_⟩, by rw [hsz.1]; exact Nat.le_refl _, Nat.le_succ _, Nat.le_succ_of_le (Nat.le_succ _), fun a ha hn' => ?_, fun a ha => ?_, fun hw => ⟨fun a c hc => ?_, fun a c hc => ?_⟩, hsz.2⟩
    · by_cases e1 : a = h.next
      · subst e1; exact ⟨Nat.le_refl _, Nat.lt_succ_self _⟩
      · simp [Upd, e1, h1] at h2
    · rw [hobj] at hoo
      by_cases e1 : a = h.next
      · subst e1; obtain rfl := hnew j hj; exact hf b i ob hi hb hl
      · rw [if_neg e1] at hoo
        by_cases e2 : a = b
        · rw [if_pos e2] at hoo; simp at hoo; subst hoo; simp [AObj.live] at hlo
        · rw [if_neg e2] at hoo; exact hf a j oo (hold a j hj e1) hoo hlo
    · rw [hobj] at hoo
      by_cases e1 : a = h.next
      · subst e1; obtain rfl := hnew j hj; exact hf b i ob hi hb hm
      · rw [if_neg e1] at hoo
        by_cases e2 : a = b
        · rw [if_pos e2] at hoo; simp at hoo; subst hoo; simp [AObj.mut, AObj.live] at hlo
        · rw [if_neg e2] at hoo; exact hf a j oo (hold a j hj e1) hoo hlo
    · have e2 : a ≠ b := fun e2 => by subst e2; rw [hi] at hn'; simp at hn'
      simp [H.new, H.upd, T.get_put, show a ≠ h.next by omega, e2]
    · by_cases e2 : a = b
      · subst e2; exact .inr ⟨⟨h.clk, .dead⟩, by simp [H.new, H.upd, T.get_put, show a ≠ h.next by omega], Nat.le_refl _⟩
      · exact .inl (by simp [H.new, H.upd, T.get_put, show a ≠ h.next by omega, e2])
    · simp only [H.new, H.upd, T.get_put] at hc ⊢
      by_cases e1 : a = h.next
      · omega
      · rw [if_neg e1] at hc
        by_cases e2 : a = b
        · subst e2; have := hwf.obj_lt hb; omega
        · rw [if_neg e2] at hc; exact Nat.lt_succ_of_lt (hw.lt a c hc)
    · simp only [H.new, H.upd, T.get_put] at hc ⊢
      by_cases e1 : a = h.next
      · rw [if_pos e1] at hc; simp at hc; subst hc; exact Nat.lt_succ_self _
      · rw [if_neg e1] at hc
        by_cases e2 : a = b
        · rw [if_pos e2] at hc; simp at hc; subst hc; dsimp only; omega
        · rw [if_neg e2] at hc; have := hw.ver a c hc; omega

/-- A live row is given up; nothing else changes. -/
theorem ext_kill {h : H} {w : World} {b : Nat} {i : BI} {ob : AObj} (hi : ρ b = some i) (hb : h.obj b = some ob) (hl : ob.mut = true) (hg : HR ρ h.obj w) (hwf : WFH h) :
    HR ρ (h.upd b .dead).obj w ∧ Ext ρ h w ρ (h.upd b .dead) w :=
  ext_upd hi hb hl hg trivial (fun _ _ => rfl) ⟨rfl, Env.refl w⟩ hwf

theorem appendV_sim {t t1 ty : TypeId} {h h' : H} {w : World} {sv x v sv' x' : Value} {ats : Array TypeId} (ha0 : ats[0]? = some t) (ha1 : ats[1]? = some t1)
    (he : appendV P t t1 sv x h = some (v, h')) (hsv : VR ρ sv sv') (hx : VR ρ x x') (hg : HR ρ h.obj w) (hwf : WFH h) (hn : h.next < h'.next → ρ h.next = none) :
    ∃ ρ' w' v', (Builtin.append_ ats ty #[sv', x']).run P w = .ok v' w' ∧ VR ρ' v v' ∧ HR ρ' h'.obj w' ∧ Ext ρ h w ρ' h' w' := by
  unfold appendV at he
  split at he
  · rename_i e d1 base n c hd hd1
    have hni := (opt_false he).1
    replace he := (opt_false he).2
    split at he
    · rename_i z bs zero hz hbs hzero
      obtain ⟨i, hi, hiz, hib, hizero, hzok⟩ := info_of hz hbs hzero
      have hzz := (opt_false he).1
      replace he := (opt_false he).2
      simp only [Bool.and_eq_true, Nat.beq_eq] at hzz
      have hzsz := hzz.1
      have hzpos : 1 ≤ z := Nat.le_of_ble_eq_true hzz.2
      split at he
      · simp at he
      · rename_i m new hnew
        obtain ⟨hlen, hnl, new', hvn, hf1, hf2⟩ := newOf_sim (P := P) hnew hx hg hzpos
        have hnl' : new'.length = m * z := by rw [← hvn.length, hnl]
        have hf2' : (Builtin.firstCells i.size m x').run P w.drew = .ok new'.toArray w.drew := by rw [hiz]; exact hf2
        split at he
        · -- nil
          have hc := (opt_false he).1
          replace he := (opt_false he).2
          simp only [Bool.and_eq_true, Nat.beq_eq] at hc
          obtain ⟨rfl, rfl⟩ := hc
          obtain rfl := hsv.sliceNone
          cases hm : Nat.beq m 0 with
          | true =>
            rw [hm] at he; simp at he; obtain ⟨rfl, rfl⟩ := he
            have hm0 : m = 0 := Nat.eq_of_beq_eq_true hm
            subst hm0
            refine ⟨ρ, w, .slice none 0 0, ?_, .atom rfl, hg, Ext.refl ρ h w⟩
            rw [append_room ha0 ha1 hd hd1 hni hz (hlen w) hf1 (Nat.le_refl _)]
          | false =>
            rw [hm] at he; simp only [cond_false] at he
            have hm0 : m ≠ 0 := Nat.ne_of_beq_eq_false hm
            have hb := (opt_false he).1
            replace he := (opt_false he).2
            simp only [Bool.and_eq_true] at hb
            have hb1 := Nat.le_of_ble_eq_true hb.1
            have hb2 := Nat.le_of_ble_eq_true hb.2
            simp at he; obtain ⟨rfl, rfl⟩ := he
            replace hn := hn (Nat.lt_succ_self _)
            have hrun := append_grow (P := P) (ty := ty) ha0 ha1 hd hd1 hni hi hizero (hlen w) hf2' (old := #[]) (sLen := 0) (sCap := 0) (base := none) (by simp [Builtin.firstCells]) (by omega) (by omega) (by simpa [hib] using hb2)
            simp only [Nat.zero_add, Array.empty_append] at hrun
            have hcap := grownCap_ge w m 0 e
            generalize grownCap w m 0 e = nc at hrun hcap
            obtain ⟨arr, harr⟩ : ∃ arr, arr = new'.toArray ++ Builtin.zeroCells zero.cells (nc - m) := ⟨_, rfl⟩
            rw [← harr] at hrun
            have hsz : arr.size = nc * z := by
              rw [harr]; simp only [Array.size_append, List.size_toArray, hnl', Builtin.zeroCells, Array.size_map, Array.size_range, hzsz]
              rw [← Nat.add_mul]; congr 1; omega
            obtain ⟨k1, k2⟩ := ext_new (w' := w.drew.alloc (.cells arr e)) (N := arr.size) hn hg ⟨rfl, rfl, rfl⟩ (ob := rowOf e new) (o' := .cells arr e)
              (OR_rowOf (cs' := new') (hvn.mono (Upd.sub _ hn)) (by rw [harr]; simp) (.inl rfl))
            refine ⟨_, _, _, hrun, ?_, k1, k2⟩
            refine .slice (a := ⟨h.next, 0, some (2 * z)⟩) (i := ⟨w.heap.size, 0, arr.size⟩) (sp := 2 * z) (Upd.same _ _ _) rfl (Nat.le_refl _) hcap (fun h => by omega) (fun _ => rfl) ?_
            show 0 + nc * (2 * z / 2) ≤ arr.size
            rw [hsz, show 2 * z / 2 = z by omega]; omega
        · rename_i b
          split at he
          · simp at he
          · rename_i sp hsp
            have hc := (opt_false he).1
            replace he := (opt_false he).2
            have hspz : sp / 2 = z := by simpa using hc
            cases hsv with
            | atom hh => simp [okAtom] at hh
            | slice g1 g2 g3 g4 g5 g6 g7 =>
              rename_i bi sp' c' o'
              obtain rfl : sp = sp' := by rw [hsp] at g2; simpa using g2
              rw [hspz] at g7
              cases hle : Nat.ble (n + m) c with
              | true =>
                rw [hle] at he; simp only [cond_true] at he
                have hle' := Nat.le_of_ble_eq_true hle
                split at he
                · rename_i h2 hst
                  simp at he; obtain ⟨rfl, rfl⟩ := he
                  have hrun := append_room (P := P) (ty := ty) (base := some ⟨bi.b, o', none⟩) ha0 ha1 hd hd1 hni hz (hlen w) hf1 (Nat.le_trans hle' g4)
                  dsimp only at hrun
                  have hval : VR ρ (.slice (some b) (n + m) c) (.slice (some ⟨bi.b, o', none⟩) (n + m) c') := .slice g1 g2 hle' g4 g5 g6 (by rw [hspz]; exact g7)
                  by_cases hc0 : 0 < c
                  · have ho := g6 hc0
                    subst ho
                    obtain ⟨w', q1, q2, q3⟩ := storeN_sim (P := P) hst g1 hg hwf hvn
                    refine ⟨ρ, w', _, ?_, hval, q2, q3⟩
                    rw [hrun, addr_add, Nat.add_assoc, q1]; rfl
                  · have hm0 : m = 0 := by omega
                    subst hm0
                    have hnn : new' = [] := List.eq_nil_of_length_eq_zero (by rw [hnl']; omega)
                    have hnn2 : new = [] := List.eq_nil_of_length_eq_zero (by rw [hnl]; omega)
                    subst hnn2
                    simp only [storeN, Option.some.injEq] at hst
                    subst hst
                    refine ⟨ρ, w, _, ?_, hval, hg, Ext.refl ρ h w⟩
                    rw [hrun, hnn]; simp [storeCells]
                · simp at he
              | false =>
                rw [hle] at he; simp only [cond_false] at he
                have hgt : c < n + m := by
                  rcases Nat.lt_or_ge c (n + m) with hh | hh
                  · exact hh
                  · have := Nat.ble_eq_true_of_le hh; rw [this] at hle; simp at hle
                have hb := (opt_false he).1
                replace he := (opt_false he).2
                simp only [Bool.and_eq_true] at hb
                have hb1 := Nat.le_of_ble_eq_true hb.1.1
                have hb2 := Nat.le_of_ble_eq_true hb.1.2
                have hone := hb.2
                split at he
                · rename_i old m1 cs1 e1 hold hob
                  have hmu := (opt_false he).1
                  replace he := (opt_false he).2
                  simp at he
                  obtain ⟨rfl, he2⟩ := he
                  have hmut : Nat.beq (sp % 2) 1 = false → (AObj.row m1 cs1 e1).mut = true := fun hh => by
                    rw [hh] at hmu; simpa [AObj.mut, AObj.live, AObj.ro] using hmu
                  -- the old cells
                  have hO : ∃ old', VRs ρ old old' ∧ old.length = n * z ∧ (∀ (j : Nat) v, old'[j]? = some v → w.cell? ⟨bi.b, o' + j, none⟩ = some v) := by
                    cases n with
                    | zero => simp at hold; subst hold; exact ⟨[], .nil, by simp, fun j v hj => by simp at hj⟩
                    | succ n =>
                      obtain ⟨q1, old', q2, q3⟩ := loadN_sim hold g1 hg
                      have ho := g6 (by omega)
                      subst ho
                      exact ⟨old', q2, q1, q3⟩
                  obtain ⟨old', hvo, hol, hoc⟩ := hO
                  have hol' : old'.length = n * z := by rw [← hvo.length, hol]
                  by_cases hroom : n + m ≤ c'
                  · -- in place
                    have hne : ¬ (sp % 2 = 1) := fun hh => by have := g5 hh; omega
                    have hsp0 : Nat.beq (sp % 2) 1 = false := nbeq_false hne
                    rw [hsp0] at he2; simp only [cond_false] at he2
                    subst he2
                    replace hn := hn (Nat.lt_succ_self _)
                    have hrun := append_room (P := P) (ty := ty) (base := some ⟨bi.b, o', none⟩) ha0 ha1 hd hd1 hni hz (hlen w) hf1 hroom
                    dsimp only at hrun
                    obtain ⟨arr, e', fr, p1, p2, p3, p4, p5⟩ := hg.obj b.block bi _ g1 hob
                    replace p4 := p4.resolve_left (by have := hmut hsp0; simp [AObj.mut, AObj.live, AObj.ro] at this; rw [this]; simp)
                    have hmul : n * z + m * z ≤ c' * z := by rw [← Nat.add_mul]; exact Nat.mul_le_mul_right _ hroom
                    obtain ⟨w', q1, q2, q3, q4⟩ := run_storeAll (P := P) bi.b (o' + n * z) new' 0 w arr e' fr p1 (by rw [p2]; exact p4) (by rw [hnl', p2]; omega) (by rw [hvn.oneCell]; exact hone)
                    have hOR : OR (Upd ρ h.next ⟨bi.b, o', bi.N⟩) ⟨bi.b, o', bi.N⟩ (rowOf e (old ++ new)) w'.heap[bi.b]? := by
                      rw [q2]
                      refine ⟨_, e', fr, rfl, by rw [setAll_size, p2], ?_, .inr p4, fun j v hj hv => ?_⟩
                      · simp only [List.length_append, hol, hnl]; show o' + (n * z + m * z) ≤ bi.N; omega
                      · simp only [List.length_append, hol, hnl] at hj
                        rw [T.get_ofListFrom, if_pos ⟨by omega, by simp only [List.length_append, hol, hnl]; omega⟩] at hv
                        simp only [Nat.sub_zero] at hv
                        rw [setAll_get _ _ _ _ (by rw [hnl', p2]; omega)]
                        show ∃ v', (if o' + n * z + 0 ≤ o' + j ∧ o' + j < o' + n * z + 0 + new'.length then new'[o' + j - (o' + n * z + 0)]? else arr[o' + j]?) = some v' ∧ _
                        by_cases hjn : j < n * z
                        · rw [if_neg (by omega)]
                          rw [List.getElem?_append_left (by rw [hol]; exact hjn)] at hv
                          obtain ⟨v', r1, r2⟩ := hvo.get hv
                          have := hoc j v' r1
                          rw [cell_of p1] at this
                          exact ⟨v', this, r2.mono (Upd.sub _ hn)⟩
                        · rw [if_pos (by rw [hnl']; omega)]
                          rw [List.getElem?_append_right (by rw [hol]; omega), hol] at hv
                          obtain ⟨v', r1, r2⟩ := hvn.get hv
                          refine ⟨v', ?_, r2.mono (Upd.sub _ hn)⟩
                          rw [show o' + j - (o' + n * z + 0) = j - n * z by omega]; exact r1
                    obtain ⟨k1, k2⟩ := ext_moved g1 hob (hmut hsp0) hg hwf hn hOR q3 q4
                    refine ⟨_, w', .slice (some ⟨bi.b, o', none⟩) (n + m) c', ?_, ?_, k1, k2⟩
                    · rw [hrun, addr_add, q1]; rfl
                    · refine .slice (a := ⟨h.next, 0, some (2 * z)⟩) (i := ⟨bi.b, o', bi.N⟩) (sp := 2 * z) (Upd.same _ _ _) rfl (Nat.le_refl _) hroom (fun h => by omega) (fun _ => rfl) ?_
                      show o' + c' * (2 * z / 2) ≤ bi.N
                      rw [show 2 * z / 2 = z by omega]; exact g7
                  · -- a new block
                    have hfo : (Builtin.firstCells i.size n (.slice (some ⟨bi.b, o', none⟩) n c')).run P w.drew = .ok old'.toArray w.drew := by
                      rw [hiz]; exact firstCells_slice hol' (fun j v hj => hoc j v hj)
                    have hrun := append_grow (P := P) (ty := ty) ha0 ha1 hd hd1 hni hi hizero (hlen w) hf2' hfo (by omega) hb1 (by rw [hib]; exact hb2)
                    have hcap := grownCap_ge w (n + m) c' e
                    generalize grownCap w (n + m) c' e = nc at hrun hcap
                    obtain ⟨arr, harr⟩ : ∃ arr, arr = old'.toArray ++ new'.toArray ++ Builtin.zeroCells zero.cells (nc - (n + m)) := ⟨_, rfl⟩
                    rw [← harr] at hrun
                    have hsz : arr.size = nc * z := by
                      rw [harr]; simp only [Array.size_append, List.size_toArray, hnl', hol', Builtin.zeroCells, Array.size_map, Array.size_range, hzsz]
                      rw [← Nat.add_mul, ← Nat.add_mul]; congr 1; omega
                    have hpre : (old' ++ new') <+: arr.toList := by rw [harr]; simp
                    have hval : ∀ ρ0 : Rho, VR (Upd ρ0 h.next ⟨w.heap.size, 0, arr.size⟩) (.slice (some ⟨h.next, 0, some (2 * z)⟩) (n + m) (n + m)) (.slice (some ⟨w.heap.size, 0, none⟩) (n + m) nc) := by
                      intro ρ0
                      refine .slice (a := ⟨h.next, 0, some (2 * z)⟩) (i := ⟨w.heap.size, 0, arr.size⟩) (sp := 2 * z) (Upd.same _ _ _) rfl (Nat.le_refl _) hcap (fun h => by omega) (fun _ => rfl) ?_
                      show 0 + nc * (2 * z / 2) ≤ arr.size
                      rw [hsz, show 2 * z / 2 = z by omega]; omega
                    cases hsp1 : Nat.beq (sp % 2) 1 with
                    | true =>
                      rw [hsp1] at he2; simp only [cond_true] at he2
                      subst he2
                      replace hn := hn (Nat.lt_succ_self _)
                      obtain ⟨k1, k2⟩ := ext_new (w' := w.drew.alloc (.cells arr e)) (N := arr.size) hn hg ⟨rfl, rfl, rfl⟩ (ob := rowOf e (old ++ new)) (o' := .cells arr e)
                        (OR_rowOf (cs' := old' ++ new') ((hvo.append hvn).mono (Upd.sub _ hn)) hpre (.inl rfl))
                      exact ⟨_, _, _, hrun, hval ρ, k1, k2⟩
                    | false =>
                      rw [hsp1] at he2; simp only [cond_false] at he2
                      subst he2
                      replace hn := hn (Nat.lt_succ_self _)
                      obtain ⟨j1, j2⟩ := ext_kill (w := w) g1 hob (hmut hsp1) hg hwf
                      obtain ⟨k1, k2⟩ := ext_new (h := h.upd b.block .dead) (w' := w.drew.alloc (.cells arr e)) (N := arr.size) hn j1 ⟨rfl, rfl, rfl⟩ (ob := rowOf e (old ++ new)) (o' := .cells arr e)
                        (OR_rowOf (cs' := old' ++ new') ((hvo.append hvn).mono (Upd.sub _ hn)) hpre (.inl rfl))
                      exact ⟨_, _, _, hrun, hval ρ, k1, j2.trans k2⟩
                · simp at he
    · simp at he
  · simp at he

theorem simAppend {o : Oper} {c : Call} {h : H} {w : World} {r : ANext} (ho : o.op = .call c) (hcal : c.callee = .builtin .append) (he : execE P s h o.op = some r) (ht : TR ρ s a.tmps) (hg : HR ρ h.obj w) (hwf : WFH h)
    (hn : ∀ h', ((∃ v, r = .val v h') ∨ r = .skip h') → h.next < h'.next → ρ h.next = none) : SimE P ρ h w a o r := by
  rw [ho] at he; simp only [execE, hcal] at he
  split at he
  · rename_i t t1 sv x ha0 ha1 hvs
    split at he
    · rename_i v h' hap
      simp at he; subst he
      have hargs := ht.evs hvs
      obtain ⟨sv', x', hal, hsv, hx⟩ : ∃ sv' x', c.args.toList.map a.eval = [sv', x'] ∧ VR ρ sv sv' ∧ VR ρ x x' := by
        generalize (c.args.toList.map a.eval) = al at hargs
        cases hargs with
        | cons h1 t1 => cases t1 with
          | cons h2 t2 => cases t2; exact ⟨_, _, rfl, h1, h2⟩
      have hA : c.args.map a.eval = #[sv', x'] := by apply Array.ext'; simpa using hal
      obtain ⟨ρ', w', v', k1, k2, k3, k4⟩ := appendV_sim (ty := o.type) ha0 ha1 hap hsv hx hg hwf (hn h' (.inl ⟨v, rfl⟩))
      exact ⟨ρ', w', v', by simp [execOp, ho, resolve, hcal, invoke, builtin, hA, k1], k2, k3, k4⟩
    · simp at he
  · simp at he

theorem firstOf_sim {h : H} {w : World} {z n m : Nat} {x x' : Value} {vs : List Value} (hn : firstOf h z n x = some vs) (hm : lenV x = some m) (hnm : n ≤ m) (h1 : 1 ≤ n) (hx : VR ρ x x') (hg : HR ρ h.obj w) :
    (∀ w', (Builtin.lenOf x').run P w' = .ok m w') ∧ ∃ vs', VRs ρ vs vs' ∧ (Builtin.firstCells z n x').run P w = .ok vs'.toArray w := by
  unfold firstOf at hn
  split at hn
  · rename_i b m1 c
    simp only [lenV, Option.some.injEq] at hm; subst hm
    cases hx with
    | atom hh => simp [okAtom] at hh
    | slice q1 q2 q3 q4 q5 q6 q7 =>
      rename_i i sp c' o'
      obtain ⟨hl, vs', hr, hc⟩ := loadN_sim hn q1 hg
      have hl' : vs'.length = n * z := by rw [← hr.length, hl]
      have ho := q6 (by omega)
      subst ho
      exact ⟨fun w' => by simp [Builtin.lenOf], vs', hr, firstCells_slice hl' hc⟩
  · obtain ⟨hb, _⟩ := opt_false hn
    have := Nat.eq_of_beq_eq_true hb; omega
  · rename_i b
    have hb : z = 1 := Nat.eq_of_beq_eq_true (opt_false hn).1
    replace hn := (opt_false hn).2
    simp only [Option.some.injEq] at hn
    subst hb; subst hn
    simp only [lenV, Option.some.injEq] at hm; subst hm
    obtain rfl := hx.string
    refine ⟨fun w' => by simp [Builtin.lenOf], _, VRs.atoms (List.all_eq_true.2 fun v hv => by obtain ⟨u, _, rfl⟩ := List.mem_map.1 hv; rfl), ?_⟩
    simp only [Builtin.firstCells, Sem.run_pure]
    congr 1
    apply Array.ext'
    simp
  · simp at hn

theorem simCopy {o : Oper} {c : Call} {h : H} {w : World} {r : ANext} (ho : o.op = .call c) (hcal : c.callee = .builtin .copy) (he : execE P s h o.op = some r) (ht : TR ρ s a.tmps) (hg : HR ρ h.obj w) (hwf : WFH h) :
    SimE P ρ h w a o r := by
  rw [ho] at he; simp only [execE, hcal, execE2] at he
  split at he
  · rename_i t ad n cp x hcl hty hvs
    split at he
    · rename_i e m hd hm
      split at he
      · rename_i z sp hz hsp
        have hargs := ht.evs hvs
        generalize hal : c.args.toList.map a.eval = al at hargs
        cases hargs with
        | cons p1 q1 => cases q1 with
          | cons p2 q2 =>
            cases q2
            rename_i dst' x'
            have hA : c.args.map a.eval = #[dst', x'] := by apply Array.ext'; simpa using hal
            cases p1 with
            | atom hh => simp [okAtom] at hh
            | slice r1 r2 r3 r4 r5 r6 r7 =>
              rename_i i sp' c' o'
              have hlen : ∀ w' : World, (Builtin.lenOf x').run P w' = .ok m w' := by
                intro w'
                unfold lenV at hm
                split at hm
                · simp only [Option.some.injEq] at hm; subst hm
                  cases p2 with
                  | atom _ => rfl
                  | slice => rfl
                · simp only [Option.some.injEq] at hm; subst hm; rw [p2.string]; rfl
                · simp at hm
              rcases cond_both he with ⟨hb, he⟩ | ⟨_, he⟩
              · simp only [Bool.and_eq_true] at hb
                have hpos : 1 ≤ Nat.min m n := Nat.le_of_ble_eq_true hb.2
                split at he
                · rename_i vs hf
                  split at he
                  · rename_i h' hst
                    simp at he; subst he
                    obtain ⟨_, vs', k1, k2⟩ := firstOf_sim (P := P) hf hm (Nat.min_le_left _ _) hpos p2 hg
                    obtain ⟨w', j1, j2, j3⟩ := storeN_sim (P := P) hst r1 hg hwf k1
                    have hn : Nat.min m n ≤ n := Nat.min_le_right _ _
                    have ho' := r6 (by omega)
                    subst ho'
                    refine ⟨ρ, w', goInt (Nat.min m n), ?_, .atom rfl, j2, j3⟩
                    have j1' : (storeCells ⟨i.b, i.base + ad.off, none⟩ vs').run P w = .ok () w' := j1
                    simp [execOp, ho, resolve, hcal, invoke, builtin, hA, Builtin.copy_, hty, run_under hd, hlen, sizeO_run hz, k2, j1']
                  · simp at he
                · simp at he
              · obtain ⟨hb0, he⟩ := opt_false he
                simp at he; subst he
                have hb0 : Nat.min m n = 0 := Nat.eq_of_beq_eq_true hb0
                refine ⟨ρ, w, goInt 0, ?_, .atom rfl, hg, Ext.refl _ _ _⟩
                have hfc : (Builtin.firstCells z 0 x').run P w = .ok #[] w := by
                  unfold lenV at hm
                  split at hm
                  · cases p2 with
                    | atom hh =>
                      rename_i b _ _
                      cases b with
                      | none => simp [Builtin.firstCells]
                      | some b => simp [okAtom] at hh
                    | slice => simp [Builtin.firstCells, loadCells, loadCellsFrom]
                  · rw [p2.string]; simp [Builtin.firstCells]
                  · simp at hm
                simp [execOp, ho, resolve, hcal, invoke, builtin, hA, Builtin.copy_, hty, run_under hd, hlen, sizeO_run hz, hb0, hfc, storeCells]
      · simp at he
    · simp at he
  · rename_i h1 _ _; simp at h1
  · simp at he

theorem simClear {o : Oper} {c : Call} {h : H} {w : World} {r : ANext} (ho : o.op = .call c) (hcal : c.callee = .builtin .clear) (he : execE P s h o.op = some r) (ht : TR ρ s a.tmps) (hg : HR ρ h.obj w) (hwf : WFH h) :
    SimE P ρ h w a o r := by
  rw [ho] at he; simp only [execE, hcal, execE2] at he
  split at he
  · rename_i h1 _ _; simp at h1
  · rename_i t m hcl hty hvs
    split at he
    · rename_i k e es cl hd hb
      simp at he; subst he
      have hargs := ht.evs hvs
      generalize hal : c.args.toList.map a.eval = al at hargs
      cases hargs with
      | cons p1 q1 =>
        cases q1
        cases p1 with
        | atom hh => simp [okAtom] at hh
        | map r1 =>
          rename_i i
          have hA : c.args.map a.eval = #[.map (some i.b)] := by apply Array.ext'; simpa using hal
          obtain ⟨es', k1, k2⟩ := hg.obj _ _ _ r1 hb
          obtain ⟨s1, s2, s3⟩ := heap_set (o := .map #[] cl) k1
          obtain ⟨j1, j2⟩ := ext_upd (o' := .map [] cl) r1 hb rfl hg (by rw [s1]; exact ⟨#[], rfl, .nil⟩) s2 s3 hwf
          exact ⟨ρ, _, .tuple #[], by simp [execOp, ho, resolve, hcal, invoke, builtin, hA, Builtin.clear_, hty, run_under hd, getObj_run k1, setObj_run k1], .tuple .nil, j1, j2⟩
    · simp at he
  · simp at he

theorem simE {o : Oper} {h : H} {w : World} {r : ANext} (he : execE P s h o.op = some r) (ht : TR ρ s a.tmps) (hg : HR ρ h.obj w) (hwf : WFH h)
    (hn : ∀ h', ((∃ v, r = .val v h') ∨ r = .skip h') → h.next < h'.next → ρ h.next = none) : SimE P ρ h w a o r := by
  cases ho : o.op with
  | store t x y => exact simStore ho he ht hg hwf
  | mapUpdate t x k y => exact simMapUpdate (.inl ho) he ht hg hwf
  | insert t x k y => exact simMapUpdate (.inr ho) he ht hg hwf
  | call c =>
    cases hcal : c.callee with
    | value f => exact simCall ho hcal he ht
    | invoke r m => rw [ho] at he; simp [execE, execE2, hcal] at he
    | builtin b =>
      cases b with
      | append => exact simAppend ho hcal he ht hg hwf hn
      | delete => exact simDelete ho hcal he ht hg hwf
      | copy => exact simCopy ho hcal he ht hg hwf
      | clear => exact simClear ho hcal he ht hg hwf
      | _ => rw [ho] at he; simp [execE, execE2, hcal] at he
  | range t x => exact simRange ho he ht hg hn
  | next x str => exact simNext ho he ht hg hwf
  | _ => rw [ho] at he; simp [execE, execE2] at he

end
end Go.Proofs.YtdocmpnofklaoaaGreatDoor.Ev

/- The pure operations, joined. -/
import Derived.Test.YtdocmpnofklaoaaGreatDoorEv5
namespace Go.Proofs.YtdocmpnofklaoaaGreatDoor.Ev
open Go
set_option linter.unusedSimpArgs false

section
variable {P : Program} {ρ : Rho} {s : Fr} {a : Act}

/-- What a pure operation's answer stands for. -/
def SimV (P : Program) (ρ : Rho) (a : Act) (o : Oper) (v : Value) : Prop :=
  ∃ v', VR ρ v v' ∧ ∀ w, (execOp a.eval o).run P w = .ok (.value v') w

theorem simBound {o : Option Operand} {d n : Nat} (h : boundO s o d = some n) (ht : TR ρ s a.tmps) :
    (o = none ∧ n = d) ∨ ∃ x k, o = some x ∧ a.eval x = .int k (n : Int) := by
  cases o with
  | none => simp [boundO] at h; exact .inl ⟨rfl, h.symm⟩
  | some x =>
    simp only [boundO] at h
    cases hx : ev s x with
    | none => rw [hx] at h; simp at h
    | some v => rw [hx] at h; obtain ⟨k, e⟩ := natV_eq h (ht.ev hx); exact .inr ⟨x, k, rfl, e⟩

theorem sliceBound_ok (k : IntKind) (n y : Nat) (code : BoundsCode) (h : n ≤ y) (w : World) : (Instr.sliceBound (.int k (n : Int)) y code).run P w = .ok n w := by
  have h1 : (0 : Int) ≤ (n : Int) ∧ (n : Int) ≤ (y : Int) := ⟨by omega, by omega⟩
  simp [Instr.sliceBound, asIntOf, h1]

theorem sliceBounds_ok {lo hi mx : Option Operand} {len cap cap' l h m : Nat} {b : Bool} (hm0 : boundO s mx cap = some m) (hh0 : boundO s hi len = some h) (hl0 : boundO s lo 0 = some l)
    (h1 : l ≤ h) (h2 : h ≤ m) (h3 : m ≤ cap) (h4 : cap ≤ cap') (h5 : mx.isNone = true ∨ hi.isSome = true) (ht : TR ρ s a.tmps) (w : World) :
    (Instr.sliceBounds b len cap' (lo.map a.eval) (hi.map a.eval) (mx.map a.eval)).run P w = .ok (l, h, if mx.isSome then m else cap') w := by
  have b1 : ∀ (k : IntKind) (c : BoundsCode), (Instr.sliceBound (.int k (m : Int)) cap' c).run P w = .ok m w := fun k c => sliceBound_ok k m cap' c (by omega) w
  have b2 : ∀ (k : IntKind) (c : BoundsCode), (Instr.sliceBound (.int k (h : Int)) m c).run P w = .ok h w := fun k c => sliceBound_ok k h m c (by omega) w
  have b3 : ∀ (k : IntKind) (c : BoundsCode), (Instr.sliceBound (.int k (h : Int)) cap' c).run P w = .ok h w := fun k c => sliceBound_ok k h cap' c (by omega) w
  have b4 : ∀ (k : IntKind) (c : BoundsCode), (Instr.sliceBound (.int k (l : Int)) h c).run P w = .ok l w := fun k c => sliceBound_ok k l h c (by omega) w
  rcases simBound hm0 ht with ⟨e1, e2⟩ | ⟨xm, km, e1, e2⟩ <;> rcases simBound hh0 ht with ⟨e3, e4⟩ | ⟨xh, kh, e3, e4⟩ <;> rcases simBound hl0 ht with ⟨e5, e6⟩ | ⟨xl, kl, e5, e6⟩ <;>
    subst e1 <;> subst e3 <;> subst e5 <;> simp at h5 <;> simp only [Instr.sliceBounds, Option.map_some, Option.map_none, Sem.run_bind, Sem.run_pure, Result.andThen_ok, e2, e4, e6, b1, b2, b3, b4, Option.isSome_none, Option.isSome_some, if_true, if_false, Bool.false_eq_true] <;> simp_all

theorem nbeq_false {m n : Nat} (h : ¬ m = n) : Nat.beq m n = false := by
  cases hb : Nat.beq m n with
  | false => rfl
  | true => exact absurd (Nat.eq_of_beq_eq_true hb) h
theorem simSlice {o : Oper} {t : TypeId} {x : Operand} {lo hi mx : Option Operand} {u v : Value} (ho : o.op = .slice t x lo hi mx) (hx : ev s x = some u)
    (h : sliceO P t u s lo hi mx = some v) (ht : TR ρ s a.tmps) : SimV P ρ a o v := by
  have hu := ht.ev hx
  unfold sliceO at h
  split at h
  · rename_i b hd
    have e := hu.string
    split at h
    · rename_i h1 l1 hhi hlo
      obtain ⟨hc, h⟩ := opt_false h
      simp at h; subst h
      simp at hc
      have hc1 := hc.1
      have hc2 := hc.2
      refine ⟨_, .atom rfl, fun w => ?_⟩
      have hb := sliceBounds_ok (P := P) (ρ := ρ) (a := a) (b := false) (mx := none) (cap := b.size) (cap' := b.size) rfl hhi hlo hc1 hc2 (Nat.le_refl _) (Nat.le_refl _) (.inl rfl) ht w
      simp only [Option.map_none, Option.isSome_none, Bool.false_eq_true, if_false] at hb
      simp [execOp, ho, Instr.sliceAt, Instr.slice, run_under hd, e, hb]
    · simp at h
  · rename_i el b n c hd
    split at h
    · rename_i sp z m hh l hsp hz hm hhi hlo
      obtain ⟨hc, h⟩ := opt_false h
      simp only [Option.some.injEq] at h
      simp only [Bool.and_eq_true, Bool.or_eq_true, Nat.beq_eq] at hc
      obtain ⟨⟨⟨⟨c1, c2⟩, c3⟩, c4⟩, c5⟩ := hc
      replace c1 := Nat.le_of_ble_eq_true c1
      replace c2 := Nat.le_of_ble_eq_true c2
      replace c3 := Nat.le_of_ble_eq_true c3
      generalize e : a.eval x = u' at hu
      cases hu with
      | atom hh => simp [okAtom] at hh
      | slice hr hs hn hcc he hoo hrr =>
        rename_i i sp' c' o'
        obtain rfl : sp = sp' := by rw [hsp] at hs; simpa using hs
        subst h
        have hb := fun w => sliceBounds_ok (P := P) (ρ := ρ) (a := a) (b := true) (w := w) hm hhi hlo c1 c2 c3 hcc c5 ht
        have hrun : ∀ w, (execOp a.eval o).run P w = .ok (.value (.slice (some (if (if mx.isSome then m else c') = l then ⟨i.b, o', none⟩ else (⟨i.b, o', none⟩ : Addr).add (l * z))) (hh - l) ((if mx.isSome then m else c') - l))) w := by
          intro w
          simp only [execOp, ho, Instr.sliceAt, Instr.slice, Sem.run_bind, run_under hd, e, hb w, Result.andThen_ok, sizeO_run hz, Sem.run_pure]
          by_cases ec : (if mx.isSome then m else c') = l <;> simp [ec]
        have hadd : ∀ k, (⟨i.b, o', none⟩ : Addr).add k = ⟨i.b, o' + k, none⟩ := by
          intro k; unfold Addr.add; split
          · rename_i hk; simp [hk]
          · rfl
        refine ⟨_, ?_, hrun⟩
        rw [hadd]
        have hz2 : sp / 2 = z := c4
        cases hmx : mx with
        | some mo =>
          simp only [Option.isSome_some, if_true, cond_true]
          have hsp2 : (2 * z + 1) / 2 = z := by omega
          by_cases ec : m = l
          · subst ec
            have hb1 : Nat.beq m m = true := by simp
            simp only [hb1, cond_true, if_true]
            refine .slice (ρ := ρ) (a := ⟨b.block, b.off, some (2 * z + 1)⟩) (sp := 2 * z + 1) hr rfl (by omega) (Nat.le_refl _) (fun _ => rfl) (fun hp => by omega) ?_
            have hle : (m - m) * z ≤ c' * z := Nat.mul_le_mul_right _ (by omega)
            rw [hsp2]; rw [hz2] at hrr; omega
          · have hb1 : Nat.beq m l = false := nbeq_false ec
            simp only [hb1, cond_false, if_neg ec]
            refine .slice (ρ := ρ) (a := ⟨b.block, b.off + l * z, some (2 * z + 1)⟩) (sp := 2 * z + 1) hr rfl (by omega) (Nat.le_refl _) (fun _ => rfl) (fun hp => ?_) ?_
            · rw [hoo (by omega)]; show i.base + b.off + l * z = i.base + (b.off + l * z); omega
            · have hle : l * z + (m - l) * z ≤ c' * z := by rw [← Nat.add_mul]; exact Nat.mul_le_mul_right _ (by omega)
              rw [hsp2]; rw [hz2] at hrr; omega
        | none =>
          subst hmx
          simp only [boundO, Option.some.injEq] at hm
          subst hm
          simp only [Option.isSome_none, Bool.false_eq_true, if_false, cond_false]
          by_cases ec : c = l
          · subst ec
            have hb1 : Nat.beq c c = true := by simp
            simp only [hb1, cond_true]
            by_cases ec2 : c' = c
            · subst ec2
              simp only [if_true]
              refine .slice (ρ := ρ) (a := ⟨b.block, b.off, some sp⟩) (sp := sp) hr rfl (by omega) (Nat.le_refl _) (fun _ => rfl) (fun hp => by omega) ?_
              simp; omega
            · simp only [if_neg ec2]
              refine .slice (ρ := ρ) (a := ⟨b.block, b.off, some sp⟩) (sp := sp) hr rfl (by omega) (by omega) (fun h1 => absurd (he h1) ec2) (fun hp => by omega) ?_
              have hle : c * z + (c' - c) * z ≤ c' * z := by rw [← Nat.add_mul]; exact Nat.mul_le_mul_right _ (by omega)
              rw [hz2] at hrr ⊢; omega
          · have hb1 : Nat.beq c l = false := nbeq_false ec
            have ec2 : ¬ c' = l := by omega
            simp only [hb1, cond_false, if_neg ec2]
            refine .slice (ρ := ρ) (a := ⟨b.block, b.off + l * z, some sp⟩) (sp := sp) hr rfl (by omega) (by omega) (fun h1 => by rw [he h1]) (fun hp => ?_) ?_
            · rw [hoo (by omega)]; show i.base + b.off + l * z = i.base + (b.off + l * z); omega
            · have hle : l * z + (c' - l) * z ≤ c' * z := by rw [← Nat.add_mul]; exact Nat.mul_le_mul_right _ (by omega)
              rw [hz2] at hrr ⊢; omega
    · simp at h
  · rename_i el n c hd
    have e := hu.sliceNone
    split at h
    · rename_i zz m hh l hz hm hhi hlo
      obtain ⟨hc, h⟩ := opt_false h
      simp only [Option.some.injEq] at h
      simp only [Bool.and_eq_true, Bool.or_eq_true] at hc
      obtain ⟨⟨⟨c1, c2⟩, c3⟩, c5⟩ := hc
      replace c1 := Nat.le_of_ble_eq_true c1
      replace c2 := Nat.le_of_ble_eq_true c2
      replace c3 := Nat.le_of_ble_eq_true c3
      subst h
      refine ⟨_, .atom rfl, fun w => ?_⟩
      have hb := sliceBounds_ok (P := P) (ρ := ρ) (a := a) (b := true) (cap := c) (cap' := c) hm hhi hlo c1 c2 c3 (Nat.le_refl _) c5 ht w
      have hmm : (if mx.isSome = true then m else c) = m := by
        cases hmx : mx with
        | some _ => simp
        | none => subst hmx; simp only [boundO, Option.some.injEq] at hm; simp [hm]
      rw [hmm] at hb
      simp [execOp, ho, Instr.sliceAt, Instr.slice, run_under hd, e, hb, sizeO_run hz]
    · simp at h
  · simp at h

theorem simMove {o : Oper} {x : Operand} {v : Value} (ho : o.op = .move x ∨ o.op = .assign x) (hx : ev s x = some v) (ht : TR ρ s a.tmps) : SimV P ρ a o v :=
  ⟨_, ht.ev hx, fun w => by rcases ho with ho | ho <;> simp [execOp, ho]⟩

theorem simPick {o : Oper} {c x y : Operand} {v : Value} (ho : o.op = .pick c x y) (h : execP P s o.op = some v) (ht : TR ρ s a.tmps) : SimV P ρ a o v := by
  rw [ho] at h; simp only [execP] at h
  split at h
  · rename_i hc
    have e := (ht.ev hc).bool
    exact ⟨_, ht.ev h, fun w => by simp [execOp, ho, e, asBool]⟩
  · rename_i hc
    have e := (ht.ev hc).bool
    exact ⟨_, ht.ev h, fun w => by simp [execOp, ho, e, asBool]⟩
  · simp at h

theorem simNilCheck {o : Oper} {x : Operand} {v : Value} (ho : o.op = .nilCheck x) (h : execP P s o.op = some v) (ht : TR ρ s a.tmps) : SimV P ρ a o v := by
  rw [ho] at h; simp only [execP] at h
  split at h
  · rename_i b hc
    have hv := ht.ev hc
    simp at h; subst h
    generalize e : a.eval x = u at hv
    refine ⟨u, hv, fun w => ?_⟩
    cases hv with
    | atom hh => simp [okAtom] at hh
    | ptr h1 h2 => simp [execOp, ho, e]
  · rename_i f fs cs hc
    have hv := ht.ev hc
    simp at h; subst h
    generalize e : a.eval x = u at hv
    refine ⟨u, hv, fun w => ?_⟩
    cases hv with
    | atom hh => simp [okAtom] at hh
    | func h1 h2 => simp [execOp, ho, e]
  · simp at h

theorem simBin {o : Oper} {op : BinOp} {t u : TypeId} {x y : Operand} {v : Value} (ho : o.op = .binOp op t x y u) (h : execP P s o.op = some v) (ht : TR ρ s a.tmps) : SimV P ρ a o v := by
  rw [ho] at h; simp only [execP] at h
  split at h
  · rename_i vx vy hx hy
    have key := fun w => binV_run (x := x) (y := y) h (ht.ev hx) (ht.ev hy) w
    refine ⟨v, .atom (key default).1, fun w => ?_⟩
    have := (key w).2
    simp only [execOp, ho, Sem.run_bind, this, Result.andThen_ok, Sem.run_pure]
  · simp at h

theorem simUn {o : Oper} {op : UnOp} {t : TypeId} {x : Operand} {v : Value} (ho : o.op = .unOp op t x) (h : execP P s o.op = some v) (ht : TR ρ s a.tmps) : SimV P ρ a o v := by
  rw [ho] at h; simp only [execP] at h
  split at h
  · rename_i vx hx
    have key := fun w => unV_run (P := P) h (ht.ev hx) w
    exact ⟨v, .atom (key default).1, fun w => by simp [execOp, ho, (key w).2]⟩
  · simp at h

theorem simIface {o : Oper} {t : TypeId} {x : Operand} {v : Value} (ho : o.op = .makeInterface t x) (h : execP P s o.op = some v) (ht : TR ρ s a.tmps) : SimV P ρ a o v := by
  rw [ho] at h; simp only [execP] at h
  split at h
  · simp at h
  · rename_i d hni hd
    split at h
    · rename_i u hx
      have hraw : t ≠ rawT := by
        intro e; rw [e] at h; simp at h
      have hrf : Nat.beq t rawT = false := by
        cases hb : Nat.beq t rawT with
        | false => rfl
        | true => exact absurd (Nat.eq_of_beq_eq_true hb) hraw
      rw [hrf] at h
      simp at h; subst h
      refine ⟨_, .iface hraw (ht.ev hx), fun w => ?_⟩
      simp only [execOp, ho, Sem.run_bind, Instr.makeInterface, run_under hd, Result.andThen_ok]
      cases d <;> simp at hni <;> simp
    · simp at h
  · simp at h

theorem simFunc {o : Oper} {fn : Fn} {first cap : Array Operand} {v : Value} (ho : o.op = .makeFunc fn first cap) (h : execP P s o.op = some v) (ht : TR ρ s a.tmps) : SimV P ρ a o v := by
  rw [ho] at h
  cases fn <;> simp only [execP, execP2] at h <;> try (simp at h; done)
  split at h
  · rename_i fs cs hf hc
    simp at h; subst h
    refine ⟨_, .func (fs' := first.map a.eval) (cs' := cap.map a.eval) ?_ ?_, fun w => by simp [execOp, ho, Instr.makeFunc]⟩
    · simpa using ht.evs hf
    · simpa using ht.evs hc
  · simp at h

theorem addr_add (b : Nat) (o n : Nat) : (⟨b, o, none⟩ : Addr).add n = ⟨b, o + n, none⟩ := by
  unfold Addr.add; split
  · rename_i hk; simp [hk]
  · rfl

theorem simFieldAddr {o : Oper} {t : TypeId} {x : Operand} {f : Nat} {v : Value} (ho : o.op = .fieldAddr t x f) (h : execP P s o.op = some v) (ht : TR ρ s a.tmps) : SimV P ρ a o v := by
  rw [ho] at h; simp only [execP] at h
  split at h
  · rename_i b hx
    split at h
    · rename_i fs hd
      split at h
      · rename_i g hg
        split at h
        · rename_i n hz
          have hv := ht.ev hx
          cases hsp : b.spot with
          | some q => rw [hsp] at h; simp at h
          | none =>
            rw [hsp] at h; simp at h; subst h
            generalize e : a.eval x = u at hv
            cases hv with
            | atom hh => simp [okAtom] at hh
            | ptr h1 h2 =>
              rename_i i
              refine ⟨.pointer (some ⟨i.b, i.base + (b.off + g.offset), none⟩), .ptr (a := addA b g.offset) h1 rfl, fun w => ?_⟩
              simp [execOp, ho, e, Instr.fieldAt, run_under hd, hg, Instr.sureAddr, fieldPlace, sizeO_run hz, addr_add, Nat.add_assoc]
        · simp at h
      · simp at h
    · simp at h
  · simp at h

theorem getElem?_extract_list (cs : Array Value) (i n : Nat) : (cs.extract i (i + n)).toList = (cs.toList.drop i).take n := by
  simp [Array.toList_extract, List.extract]

theorem VRs.take : ∀ (n : Nat) {l l' : List Value}, VRs ρ l l' → VRs ρ (l.take n) (l'.take n)
  | 0, _, _, _ => .nil
  | _ + 1, _, _, .nil => .nil
  | n + 1, _, _, .cons a t => .cons a (VRs.take n t)
theorem VRs.drop : ∀ (n : Nat) {l l' : List Value}, VRs ρ l l' → VRs ρ (l.drop n) (l'.drop n)
  | 0, _, _, h => h
  | _ + 1, _, _, .nil => .nil
  | n + 1, _, _, .cons _ t => VRs.drop n t

theorem simField {o : Oper} {t : TypeId} {x : Operand} {f : Nat} {v : Value} (ho : o.op = .field t x f) (h : execP P s o.op = some v) (ht : TR ρ s a.tmps) : SimV P ρ a o v := by
  rw [ho] at h; simp only [execP] at h
  split at h
  · rename_i cs hx
    split at h
    · rename_i fs hd
      split at h
      · rename_i g hg
        have hv := ht.ev hx
        generalize e : a.eval x = u at hv
        cases hv with
        | atom hh => simp [okAtom] at hh
        | agg hl =>
          rename_i cs'
          split at h
          · rename_i z ha hz
            simp at h; subst h
            refine ⟨.agg (cs'.extract g.offset (g.offset + z)), .agg ?_, fun w => ?_⟩
            · rw [getElem?_extract_list, getElem?_extract_list]; exact (hl.drop _).take _
            · simp [execOp, ho, e, Instr.field, run_under hd, hg, asAgg, part, isAggO_run ha, sizeO_run hz]
          · rename_i z ha hz
            obtain ⟨v', h1, h2⟩ := hl.get (by simpa using h)
            refine ⟨v', h2, fun w => ?_⟩
            have h1' : cs'[g.offset]? = some v' := by simpa using h1
            simp [execOp, ho, e, Instr.field, run_under hd, hg, asAgg, part, isAggO_run ha, h1']
          · simp at h
      · simp at h
    · simp at h
  · simp at h

theorem simIndexAddr {o : Oper} {t : TypeId} {x i : Operand} {v : Value} (ho : o.op = .indexAddr t x i) (h : execP P s o.op = some v) (ht : TR ρ s a.tmps) : SimV P ρ a o v := by
  rw [ho] at h; simp only [execP] at h
  split at h
  · rename_i b n c iv hx hi
    split at h
    · rename_i j e sp hj hd hsp
      split at h
      · rename_i z hz
        obtain ⟨hc, h⟩ := opt_false h
        simp only [Bool.and_eq_true, Nat.beq_eq] at hc
        have hlt : j < n := by have := hc.1; rwa [Nat.blt_eq] at this
        simp at h; subst h
        have hv := ht.ev hx
        obtain ⟨k, hk⟩ := natV_eq hj (ht.ev hi)
        generalize e' : a.eval x = u at hv
        cases hv with
        | atom hh => simp [okAtom] at hh
        | slice hr hs hn hcc he hoo hrr =>
          rename_i bi sp' c' o'
          obtain rfl := hoo (by omega)
          refine ⟨.pointer (some ⟨bi.b, bi.base + (b.off + j * z), none⟩), .ptr (a := addA b (j * z)) hr rfl, fun w => ?_⟩
          simp [execOp, ho, e', hk, Instr.indexAt, asIntOf, run_under hd, hlt, sizeO_run hz, addr_add, Nat.add_assoc]
      · simp at h
    · simp at h
  · rename_i b iv hx hi
    split at h
    · rename_i j len e hj hd hsp
      split at h
      · rename_i z hz
        obtain ⟨hc, h⟩ := opt_false h
        have hlt : j < len := by rwa [Nat.blt_eq] at hc
        simp at h; subst h
        have hv := ht.ev hx
        obtain ⟨k, hk⟩ := natV_eq hj (ht.ev hi)
        generalize e' : a.eval x = u at hv
        cases hv with
        | atom hh => simp [okAtom] at hh
        | ptr hr hs =>
          rename_i bi
          refine ⟨.pointer (some ⟨bi.b, bi.base + (b.off + j * z), none⟩), .ptr (a := addA b (j * z)) hr (by simp [addA, hs]), fun w => ?_⟩
          simp [execOp, ho, e', hk, Instr.indexAt, Instr.sureAddr, asIntOf, run_under hd, hlt, sizeO_run hz, addr_add, Nat.add_assoc]
      · simp at h
    · simp at h
  · simp at h

theorem simIndex {o : Oper} {t : TypeId} {x i : Operand} {v : Value} (ho : o.op = .index t x i) (h : execP P s o.op = some v) (ht : TR ρ s a.tmps) : SimV P ρ a o v := by
  rw [ho] at h; simp only [execP] at h
  split at h
  · rename_i b iv hx hi
    split at h
    · rename_i j hj hd
      split at h
      · rename_i u hu
        simp at h; subst h
        have e1 := (ht.ev hx).string
        obtain ⟨k, hk⟩ := natV_eq hj (ht.ev hi)
        exact ⟨_, .atom rfl, fun w => by simp [execOp, ho, e1, hk, Instr.index, asIntOf, run_under hd, hu]⟩
      · simp at h
    · simp at h
  · rename_i cs iv hx hi
    split at h
    · rename_i j len e hj hd
      obtain ⟨k, hk⟩ := natV_eq hj (ht.ev hi)
      have hv := ht.ev hx
      generalize e' : a.eval x = u at hv
      cases hv with
      | atom hh => simp [okAtom] at hh
      | agg hl =>
        rename_i cs'
        split at h
        · rename_i z ha hz
          obtain ⟨hc, h⟩ := opt_false h
          have hlt : j < len := by rwa [Nat.blt_eq] at hc
          simp at h; subst h
          refine ⟨.agg (cs'.extract (j * z) (j * z + z)), .agg ?_, fun w => ?_⟩
          · rw [getElem?_extract_list, getElem?_extract_list]; exact (hl.drop _).take _
          · simp [execOp, ho, e', hk, Instr.index, asIntOf, run_under hd, hlt, part, isAggO_run ha, sizeO_run hz]
        · rename_i z ha hz
          obtain ⟨hc, h⟩ := opt_false h
          have hlt : j < len := by rwa [Nat.blt_eq] at hc
          obtain ⟨v', h1, h2⟩ := hl.get (by simpa using h)
          have h1' : cs'[j * z]? = some v' := by simpa using h1
          refine ⟨v', h2, fun w => ?_⟩
          simp [execOp, ho, e', hk, Instr.index, asIntOf, run_under hd, hlt, part, isAggO_run ha, sizeO_run hz, h1']
        · simp at h
    · simp at h
  · simp at h

theorem simExtract {o : Oper} {x : Operand} {i : Nat} {v : Value} (ho : o.op = .extract x i) (h : execP P s o.op = some v) (ht : TR ρ s a.tmps) : SimV P ρ a o v := by
  rw [ho] at h; simp only [execP] at h
  split at h
  · rename_i vs hx
    have hv := ht.ev hx
    generalize e : a.eval x = u at hv
    cases hv with
    | atom hh => simp [okAtom] at hh
    | tuple hl =>
      rename_i ws
      obtain ⟨v', h1, h2⟩ := hl.get (by simpa using h)
      have h1' : ws[i]? = some v' := by simpa using h1
      exact ⟨v', h2, fun w => by simp [execOp, ho, e, Instr.extract, h1']⟩
  · simp at h

theorem run_places (fs : Array Field) (h : (fs.toList.all fun f => (P.info? f.type).isSome) = true) (w : World) :
    (fs.mapM (fun f => do pure (f.offset, ← sizeOf f.type) : Field → Sem (Nat × Nat))).run P w = .ok (fs.map fun f => (f.offset, ((P.info? f.type).map (·.size)).getD 0)) w := by
  generalize hpl : (fun f => do pure (f.offset, ← sizeOf f.type) : Field → Sem (Nat × Nat)) = pl
  have hp : ∀ f inf, P.info? f.type = some inf → (pl f).run P w = .ok (f.offset, inf.size) w := by
    intro f inf hi; subst hpl; simp [sizeOf, run_info hi]
  have hl : ∀ (l : List Field), (l.all fun f => (P.info? f.type).isSome) = true → (l.mapM pl).run P w = .ok (l.map fun f => (f.offset, ((P.info? f.type).map (·.size)).getD 0)) w := by
    intro l
    induction l with
    | nil => intro _; simp
    | cons f l ih =>
      intro hl
      simp only [List.all_cons, Bool.and_eq_true] at hl
      obtain ⟨inf, hinf⟩ := Option.isSome_iff_exists.1 hl.1
      simp only [List.mapM_cons, Sem.run_bind, hp f inf hinf, Result.andThen_ok, ih hl.2, Sem.run_pure, List.map_cons, hinf, Option.map_some, Option.getD_some]
  rw [Array.mapM_eq_mapM_toList, Sem.run_map, hl _ h]
  simp only [Result.andThen_ok]
  congr 1
  apply Array.ext'
  simp

theorem simBuild {o : Oper} {t : TypeId} {parts : Array (Nat × Operand)} {v : Value} (ho : o.op = .build t parts) (h : execP P s o.op = some v) (ht : TR ρ s a.tmps) : SimV P ρ a o v := by
  rw [ho] at h; simp only [execP] at h
  split at h
  · rename_i vs hvs
    unfold buildV at h
    split at h
    · rename_i z fs hz hd
      obtain ⟨hall, h⟩ := opt_false h
      split at h
      · rename_i cs hf
        simp at h; subst h
        obtain ⟨hzok, hzr⟩ := zeroO_run hz
        have hrel := fill_rel (ρ := ρ) _ _ _ _ _ z.cells _ (ht.evs hvs) (VR.okZ hzok).cells hf
        obtain ⟨r', hf', hr'⟩ := hrel
        refine ⟨.agg r', .agg hr', fun w => ?_⟩
        have hmap2 := run_places (P := P) fs hall w
        have hparts : (parts.map fun (x : Nat × Operand) => (x.1, a.eval x.2)).toList = (parts.toList.map (·.1)).zip ((parts.toList.map (·.2)).map a.eval) := by
          simp [List.zip_map', List.map_map, Function.comp_def]
        simp only [execOp, ho, Instr.build, Sem.run_bind, hzr, Result.andThen_ok, run_under hd, hparts]
        rw [hmap2]
        simp only [Result.andThen_ok, hf', Sem.run_pure]
      · simp at h
    · rename_i z n e hz hd
      split at h
      · rename_i sz hsz
        split at h
        · rename_i cs hf
          simp at h; subst h
          obtain ⟨hzok, hzr⟩ := zeroO_run hz
          have hrel := fill_rel (ρ := ρ) _ _ _ _ _ z.cells _ (ht.evs hvs) (VR.okZ hzok).cells hf
          obtain ⟨r', hf', hr'⟩ := hrel
          refine ⟨.agg r', .agg hr', fun w => ?_⟩
          have hparts : (parts.map fun (x : Nat × Operand) => (x.1, a.eval x.2)).toList = (parts.toList.map (·.1)).zip ((parts.toList.map (·.2)).map a.eval) := by
            simp [List.zip_map', List.map_map, Function.comp_def]
          simp only [execOp, ho, Instr.build, Sem.run_bind, hzr, Result.andThen_ok, run_under hd, hparts, sizeO_run hsz, hf', Sem.run_pure]
        · simp at h
      · simp at h
    · simp at h
  · simp at h

theorem simCallP {o : Oper} {c : Call} {v : Value} (ho : o.op = .call c) (h : execP2 P s o.op = some v) (ht : TR ρ s a.tmps) : SimV P ρ a o v := by
  rw [ho] at h; simp only [execP2] at h
  have hA : ∀ {al : List Value}, c.args.toList.map a.eval = al → c.args.map a.eval = al.toArray := fun h => by apply Array.ext'; simpa using h
  split at h
  · rename_i k x k' y hcal hvs
    simp only [Option.some.injEq] at h; subst h
    have hargs := ht.evs hvs
    generalize hal : c.args.toList.map a.eval = al at hargs
    cases hargs with
    | cons p1 q1 => cases q1 with
      | cons p2 q2 =>
        cases q2
        rw [p1.int, p2.int] at hal
        exact ⟨_, .atom rfl, fun w => by simp [execOp, ho, resolve, hcal, invoke, builtin, hA hal, Builtin.min_, Builtin.min2, ltI_eq]⟩
  · rename_i k x k' y hcal hvs
    simp only [Option.some.injEq] at h; subst h
    have hargs := ht.evs hvs
    generalize hal : c.args.toList.map a.eval = al at hargs
    cases hargs with
    | cons p1 q1 => cases q1 with
      | cons p2 q2 =>
        cases q2
        rw [p1.int, p2.int] at hal
        exact ⟨_, .atom rfl, fun w => by simp [execOp, ho, resolve, hcal, invoke, builtin, hA hal, Builtin.max_, Builtin.max2, ltI_eq]⟩
  · rename_i b n cp hcal hvs
    have hargs := ht.evs hvs
    generalize hal : c.args.toList.map a.eval = al at hargs
    cases hargs with
    | cons p1 q1 =>
      cases q1
      split at h
      · rename_i t hty
        split at h
        · rename_i e hd
          split at h
          · simp only [Option.some.injEq] at h; subst h
            rw [p1.sliceNone] at hal
            exact ⟨_, .atom rfl, fun w => by simp [execOp, ho, resolve, hcal, invoke, builtin, hA hal, Builtin.cap_, hty, run_under hd]⟩
          · rename_i ad
            split at h
            · rename_i sp hsp
              obtain ⟨hodd, h⟩ := opt_false h
              simp only [Option.some.injEq] at h; subst h
              have hodd : sp % 2 = 1 := Nat.eq_of_beq_eq_true hodd
              cases p1 with
              | atom hh => simp [okAtom] at hh
              | slice r1 r2 r3 r4 r5 r6 r7 =>
                rw [hsp] at r2
                simp only [Option.some.injEq] at r2; subst r2
                have := r5 hodd
                subst this
                exact ⟨_, .atom rfl, fun w => by simp [execOp, ho, resolve, hcal, invoke, builtin, hA hal, Builtin.cap_, hty, run_under hd]⟩
            · simp at h
        · simp at h
      · simp at h
  · simp at h

theorem simAssert {o : Oper} {x : Operand} {xt at_ : TypeId} {ok : Bool} {v : Value} (ho : o.op = .typeAssert x xt at_ ok) (h : execP2 P s o.op = some v) (ht : TR ρ s a.tmps) : SimV P ρ a o v := by
  rw [ho] at h; simp only [execP2] at h
  split at h
  · simp at h
  · rename_i d t u hni hd hx
    obtain ⟨hb, h⟩ := opt_false h
    simp only [Option.some.injEq] at h; subst h
    simp only [Bool.and_eq_true, Bool.not_eq_true'] at hb
    have hraw := hb.2
    have hb : t = at_ := Nat.eq_of_beq_eq_true hb.1
    have hv := ht.ev hx
    generalize e : a.eval x = q at hv
    cases hv with
    | atom hh => simp [okAtom] at hh
    | raw hh => simp [rawT] at hraw
    | iface hnr hv =>
      clear hnr
      rename_i u'
      refine ⟨bif ok then .tuple #[u', .bool true] else u', ?_, fun w => ?_⟩
      · cases ok with
        | true => exact .tuple (.cons hv (.cons (.atom rfl) .nil))
        | false => exact hv
      · subst hb
        cases d with
        | interface m => exact absurd rfl (hni m)
        | _ => cases ok <;> simp [execOp, ho, e, Instr.typeAssert, run_under hd]
  · simp at h

theorem simP {o : Oper} {v : Value} (h : execP P s o.op = some v) (ht : TR ρ s a.tmps) : SimV P ρ a o v := by
  cases ho : o.op with
  | move x => rw [ho] at h; exact simMove (.inl ho) h ht
  | assign x => rw [ho] at h; exact simMove (.inr ho) h ht
  | pick c x y => exact simPick ho h ht
  | build t p => exact simBuild ho h ht
  | nilCheck x => exact simNilCheck ho h ht
  | binOp op t x y u => exact simBin ho h ht
  | unOp op t x => exact simUn ho h ht
  | makeInterface t x => exact simIface ho h ht
  | makeFunc fn f c => exact simFunc ho h ht
  | slice t x lo hi mx =>
    rw [ho] at h; simp only [execP] at h
    cases hx : ev s x with
    | none => rw [hx] at h; simp at h
    | some u => rw [hx] at h; exact simSlice ho hx h ht
  | fieldAddr t x f => exact simFieldAddr ho h ht
  | field t x f => exact simField ho h ht
  | indexAddr t x i => exact simIndexAddr ho h ht
  | index t x i => exact simIndex ho h ht
  | extract x i => exact simExtract ho h ht
  | call c => rw [ho] at h; simp only [execP] at h; rw [← ho] at h; exact simCallP ho h ht
  | typeAssert x xt at_ ok => rw [ho] at h; simp only [execP] at h; rw [← ho] at h; exact simAssert ho h ht
  | _ => rw [ho] at h; simp [execP, execP2] at h

end
end Go.Proofs.YtdocmpnofklaoaaGreatDoor.Ev

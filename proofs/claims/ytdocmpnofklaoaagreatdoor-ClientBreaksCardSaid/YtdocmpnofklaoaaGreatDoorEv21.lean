/- Parts of a function, by hand: a statement of which some values are given, a state laid anew. -/
import Derived.Test.YtdocmpnofklaoaaGreatDoorEv20
namespace Go.Proofs.YtdocmpnofklaoaaGreatDoor.Ev
open Go
set_option linter.unusedSimpArgs false

section
variable {P : Program} {ih : Ih}

/-- The text's run of a statement; where a value is given it is taken. -/
def opsTraceO (P : Program) (ih : Ih) (all : Array Oper) : List (Option Value) → List Oper → Fr → H → Except String (List (Fr × H))
  | _, [], s, h => .ok [(s, h)]
  | gs, o :: l, s, h => match gs.headD none with
    | some v => match s.put o.dst v with
      | none => .error o.pos
      | some s' => match opsTraceO P ih all gs.tail l s' h with
        | .error e => .error e
        | .ok r => .ok ((s, h) :: r)
    | none => match opV P ih all o s h with
      | .error e => .error e
      | .ok (v, h') => match s.put o.dst v with
        | none => .error o.pos
        | some s' => match opsTraceO P ih all gs.tail l s' h' with
          | .error e => .error e
          | .ok r => .ok ((s, h) :: r)

theorem opsTraceO_eq {all : Array Oper} : ∀ {l : List Oper} {gs : List (Option Value)} {s : Fr} {h : H} {sts : List (Fr × H)}, opsTraceO P ih all gs l s h = .ok sts →
    (∀ (k : Nat) v o si hi, gs[k]? = some (some v) → l[k]? = some o → sts[k]? = some (si, hi) → opV P ih all o si hi = .ok (v, hi)) → opsTrace P ih all l s h = .ok sts
  | [], gs, s, h, sts, he, _ => by simpa [opsTraceO, opsTrace] using he
  | o :: l, gs, s, h, sts, he, hg => by
    simp only [opsTraceO] at he
    split at he
    · rename_i v hv
      split at he
      · cases he
      · rename_i s1 hs
        split at he
        · cases he
        · rename_i r hr
          cases he
          have h0 : opV P ih all o s h = .ok (v, h) := hg 0 v o s h (by cases gs <;> simp_all) rfl rfl
          have ht := opsTraceO_eq hr (fun k v o si hi h1 h2 h3 => hg (k + 1) v o si hi (by cases gs <;> simp_all) (by simpa using h2) (by simpa using h3))
          simp only [opsTrace, h0, hs, ht]
    · rename_i hv
      split at he
      · cases he
      · rename_i v h1 hop
        split at he
        · cases he
        · rename_i s1 hs
          split at he
          · cases he
          · rename_i r hr
            cases he
            have ht := opsTraceO_eq hr (fun k v o si hi h1 h2 h3 => hg (k + 1) v o si hi (by cases gs <;> simp_all) (by simpa using h2) (by simpa using h3))
            simp only [opsTrace, hop, hs, ht]

/-- A statement whose order is open, some of its values given. -/
theorem stepE_region {id : Nat} {ops : Array Oper} {gs : List (Option Value)} {s s' : Fr} {h h' : H} {sts : List (Fr × H)} (he : opsTraceO P ih ops gs ops.toList s h = .ok sts) (hs : drawStatic P ops = true) (hd : drawDyn P ops sts = true)
    (hg : ∀ (k : Nat) v o si hi, gs[k]? = some (some v) → ops.toList[k]? = some o → sts[k]? = some (si, hi) → opV P ih ops o si hi = .ok (v, hi)) (hl : sts.getLast? = some (s', h')) :
    stepE P ih (.region id ops true) s h = .ok (.normal, s', h') := by
  simp only [stepE, hs, opsTraceO_eq he hg, hd, hl, cond_true]

/-- The same state in a frame laid anew. -/
def layFr (xs : List Value) (df : List (Option (FuncId × List Value))) : Fr := ⟨T.ofListFrom .nil 0 xs, xs.length, df⟩
theorem layFr_get (xs : List Value) (df : List (Option (FuncId × List Value))) (t : Nat) : (layFr xs df).get t = xs.getD t undef := by
  simp only [layFr, Fr.get, T.get_ofListFrom, Nat.zero_add, Nat.sub_zero]
  by_cases h : t < xs.length
  · rw [if_pos ⟨by omega, h⟩, List.getElem?_eq_getElem h, List.getD_eq_getElem?_getD, List.getElem?_eq_getElem h]; rfl
  · rw [if_neg (by omega), List.getD_eq_getElem?_getD, List.getElem?_eq_none (by omega)]; rfl

theorem At.lay {ρ : Rho} {s : Fr} {h : H} {a : Act} {w : World} (hat : At ρ s h a w) : At ρ (layFr ((List.range s.nt).map s.get) s.df) h a w := by
  refine ⟨⟨by rw [hat.tm.size]; simp [layFr], fun t => ?_⟩, hat.hp, hat.wf, hat.df⟩
  rw [layFr_get, List.getD_eq_getElem?_getD, List.getElem?_map]
  by_cases ht : t < s.nt
  · rw [List.getElem?_range ht]; exact hat.tm.get t
  · rw [List.getElem?_eq_none (by simpa using Nat.le_of_not_lt ht)]
    have hsz := hat.tm.size
    rw [Array.getD_eq_getD_getElem?, Array.getElem?_eq_none (by omega)]
    exact .inr VR.undef

end
end Go.Proofs.YtdocmpnofklaoaaGreatDoor.Ev

/- The pure operations: what the evaluator answers, the model answers. -/
import Derived.Test.YtdocmpnofklaoaaGreatDoorEv3
import Derived.Laws.Append
import Derived.Laws.Slices
import Derived.Laws.MakeOwn
namespace Go.Proofs.YtdocmpnofklaoaaGreatDoor.Ev
open Go
set_option linter.unusedSimpArgs false

section
variable {P : Program} {ρ : Rho} {s : Fr} {a : Act}

theorem run_under {t : TypeId} {d : TypeDesc} (h : P.underlying t = some d) (w : World) : (underlying t).run P w = .ok d w := by
  simp [underlying, h]
theorem run_info {t : TypeId} {i : TypeInfo} (h : P.info? t = some i) (w : World) : (typeInfo t).run P w = .ok i w := by
  simp [typeInfo, h]
theorem sizeO_run {t : TypeId} {n : Nat} (h : sizeO P t = some n) (w : World) : (sizeOf t).run P w = .ok n w := by
  simp only [sizeO] at h
  cases hi : P.info? t with
  | none => rw [hi] at h; simp at h
  | some i => rw [hi] at h; simp at h; subst h; simp [sizeOf, run_info hi]
theorem zeroO_run {t : TypeId} {z : Value} (h : zeroO P t = some z) : okZ z = true ∧ ∀ w, (zeroValue t).run P w = .ok z w := by
  simp only [zeroO] at h
  cases hi : P.info? t with
  | none => rw [hi] at h; simp at h
  | some i =>
    rw [hi] at h; dsimp only at h
    cases hz : i.zero with
    | none => rw [hz] at h; simp at h
    | some z' =>
      rw [hz] at h; dsimp only at h
      cases hc : okZ z' with
      | false => rw [hc] at h; simp at h
      | true => rw [hc] at h; simp at h; subst h; exact ⟨hc, fun w => by simp [zeroValue, run_info hi, hz]⟩
theorem isAggO_run {t : TypeId} {b : Bool} (h : isAggO P t = some b) (w : World) : (isAgg t).run P w = .ok b w := by
  simp only [isAggO] at h
  cases hd : P.underlying t with
  | none => rw [hd] at h; simp at h
  | some d =>
    rw [hd] at h
    cases d <;> simp at h <;> subst h <;> simp [isAgg, run_under hd]

/-! ### binary operations -/

theorem opt_false {α : Type} {y : α} {b : Bool} {p : Option α} (h : (bif b then p else none) = some y) : b = true ∧ p = some y := by
  cases b <;> simp_all

theorem ltI_eq (a b : Int) : ltI a b = decide (a < b) := by
  cases a <;> cases b <;> simp only [ltI] <;> rw [Bool.eq_iff_iff] <;> simp [Nat.blt_eq] <;> omega
theorem eqI_eq (a b : Int) : eqI a b = (a == b) := by
  cases a <;> cases b <;> simp only [eqI] <;> rw [Bool.eq_iff_iff] <;> simp <;> omega
theorem not_lt_eq (a b : Int) : (!decide (b < a)) = decide (a ≤ b) := by
  rw [Bool.eq_iff_iff]; simp

theorem not_eq_eq (a b : Int) : (!(a == b)) = (a != b) := rfl

theorem binI_run {op : BinOp} {k : IntKind} {x y : Int} {v : Value} {t : TypeId} (hn : isShift op = false) (h : binI op k x y = some v) (w : World) :
    okAtom v = true ∧ (binOp op t (.int k x) (.int k y)).run P w = .ok v w := by
  cases op <;> simp [isShift] at hn <;> simp only [binI, ltI_eq, eqI_eq, not_lt_eq, not_eq_eq] at h <;>
    first
    | (simp at h; done)
    | (simp only [Option.some.injEq] at h; subst h; refine ⟨rfl, ?_⟩; simp [binOp, Op.intArith, Op.intBits, Op.intCmp]; done)
    | (split at h
       · simp at h
       · rename_i hne
         simp only [Option.some.injEq] at h; subst h; refine ⟨rfl, ?_⟩; simp [binOp, Op.intDiv, hne])

theorem shiftI_run {op : BinOp} {k k' : IntKind} {x y : Int} {v : Value} {t : TypeId} (hn : isShift op = true) (h : shiftI op k x y = some v) (w : World) :
    okAtom v = true ∧ (binOp op t (.int k x) (.int k' y)).run P w = .ok v w := by
  simp only [shiftI] at h
  split at h
  · simp at h
  · rename_i hy
    cases op <;> simp [isShift] at hn <;> simp only [Option.some.injEq] at h <;> subst h <;> refine ⟨rfl, ?_⟩ <;> simp [binOp, Op.shift, hy]

theorem binS_run {op : BinOp} {x y : ByteArray} {v : Value} {t : TypeId} (h : binS op x y = some v) (w : World) :
    okAtom v = true ∧ (binOp op t (.string x) (.string y)).run P w = .ok v w := by
  cases op <;> simp only [binS] at h <;>
    first
    | (simp at h; done)
    | (simp only [Option.some.injEq] at h; subst h; refine ⟨rfl, ?_⟩; simp [binOp, Op.stringOp]; done)
    | (cases hb : Nat.ble (x.size + y.size) 140737488355328 with
       | false => rw [hb] at h; simp at h
       | true =>
         rw [hb] at h; simp at h; subst h; refine ⟨rfl, ?_⟩
         have h1 : x.size + y.size ≤ 140737488355328 := Nat.le_of_ble_eq_true hb
         simp [binOp, Op.stringOp]; omega)

theorem eqV_runIn {t : TypeId} {x y x' y' : Value} {b : Bool} (d : Nat) (h : eqV P t x y = some b) (hx : VR ρ x x') (hy : VR ρ y y') (w : World) :
    (Op.equalIn (d + 1) t x' y').run P w = .ok b w := by
  unfold eqV at h
  split at h <;> first
    | (simp at h; done)
    | (rename_i hu
       simp only [Option.some.injEq] at h; subst h
       cases hx <;> cases hy <;> first | (simp [okAtom] at *; done) | (simp [Op.equalIn, run_under hu]; done))
    | (rename_i hu
       have he := opt_false h
       simp only [Option.some.injEq] at he
       cases hx <;> cases hy <;> first | (simp [okAtom] at *; done) | (exfalso; simp [rawT] at he; done) | (rw [← he.2]; simp [Op.equalIn, run_under hu]; done))

theorem eqV_run {t : TypeId} {x y x' y' : Value} {b : Bool} (h : eqV P t x y = some b) (hx : VR ρ x x') (hy : VR ρ y y') (w : World) :
    (Op.equal t x' y').run P w = .ok b w := eqV_runIn 9999 h hx hy w

end
end Go.Proofs.YtdocmpnofklaoaaGreatDoor.Ev

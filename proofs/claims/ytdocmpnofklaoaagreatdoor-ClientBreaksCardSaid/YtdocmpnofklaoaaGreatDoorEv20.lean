/- The evaluator is right: a whole call. -/
import Derived.Test.YtdocmpnofklaoaaGreatDoorEv19
import Derived.Below
namespace Go.Proofs.YtdocmpnofklaoaaGreatDoor.Ev
open Go

theorem Ext.below {ρ ρ' : Rho} {h h' : H} {w w' : World} (E : Ext ρ h w ρ' h' w') (hf : ∀ b, Free ρ h.obj b) : Go.RowKit.Below w.heap.size w w' := by
  obtain ⟨e1, e2⟩ := E.env
  simp only [Prod.mk.injEq] at e2
  exact ⟨e1, e2.2, e2.1, E.size, fun k hk => (E.keep k hk (hf k)).1⟩

/-- What the evaluator says of a call holds of it, whatever the world. -/
theorem eval_calls {P : Program} (hm : P.follows .mixedOrders = true) {n : Nat} {f : FuncId} {args : List Value} {args' : Array Value} {h h' : H} {v : Value} {ρ : Rho} {w : World}
    (he : callE P n f args h = .ok (v, h')) (hargs : VRs ρ args args'.toList) (hg : HR ρ h.obj w) (hwf : WFH h) (hdom : ∀ x, h.next ≤ x → ρ x = none) :
    Calls P f args' w fun e w' => ∃ ρ' v', e = .returned v' ∧ VR ρ' v v' ∧ HR ρ' h'.obj w' ∧ Ext ρ h w ρ' h' w' :=
  callsIn_wide.1 (callA_sound (eval_sound hm n) (eval_ext n) he hargs hg hwf (fun x x1 _ => hdom x x1)).2

theorem VR.bool_eq {ρ : Rho} {b : Bool} {v : Value} (h : VR ρ (.bool b) v) : v = .bool b := by cases h; rfl

/-- Arguments that no live object of the evaluator's stands behind: the answer is a truth value, what was there stays. -/
theorem eval_bool {P : Program} (hm : P.follows .mixedOrders = true) {n : Nat} {f : FuncId} {args : List Value} {args' : Array Value} {h h' : H} {b : Bool} {ρ : Rho} {w : World}
    (he : callE P n f args h = .ok (.bool b, h')) (hargs : VRs ρ args args'.toList) (hg : HR ρ h.obj w) (hwf : WFH h) (hdom : ∀ x, h.next ≤ x → ρ x = none) (hf : ∀ b, Free ρ h.obj b) :
    Calls P f args' w fun e w' => e = .returned (.bool b) ∧ Go.RowKit.Below w.heap.size w w' := by
  refine (eval_calls hm he hargs hg hwf hdom).mono ?_
  rintro e w' ⟨ρ', v', rfl, hv, _, hx⟩
  exact ⟨by rw [hv.bool_eq], hx.below hf⟩

end Go.Proofs.YtdocmpnofklaoaaGreatDoor.Ev

/- The law CopierNobody, run by the evaluator at any side, at a slice that is nil or not. No conditions. -/
import Derived.Test.YtfambljbjhiinaaGreatDoorProg
import Derived.Test.YtfambljbjhiinaaGreatDoorEv20
import Derived.ProofKit
namespace Go.Proofs.YtfambljbjhiinaaGreatDoor.RunNobody
open Go Go.Proofs.YtfambljbjhiinaaGreatDoor.Ev

def isTrue (r : Except String (Value × H)) : Bool := match r with
  | .ok (.bool true, _) => true
  | _ => false
theorem of_isTrue {r : Except String (Value × H)} (h : isTrue r = true) : ∃ h', r = .ok (.bool true, h') := by
  unfold isTrue at h
  split at h
  · exact ⟨_, rfl⟩
  · simp at h

def h0 : H := ⟨.nil, 1, 0⟩
noncomputable def at_ (k : Int) (s1 : Value) : Bool := isTrue (callE Tryz.prog 100000 3 [.int .i64 k, s1] h0)

theorem run0 (k : Int) : at_ k (.slice none 0 0) = true := by kernel_rfl
theorem run1 (k : Int) (n c : Nat) : at_ k (.slice (some ⟨0, 0, some 0⟩) n c) = true := by kernel_rfl

theorem mixed : Tryz.prog.follows .mixedOrders = true := by kernel_rfl

/-- A slice that came in. -/
def SliceIn (W : World) (s : Value) : Prop := s = .slice none 0 0 ∨ ∃ a n c, s = .slice (some a) n c ∧ n ≤ c ∧ a.block < W.heap.size ∧ a.spot = none

def rho (i1 : Option BI) : Rho := fun x => if x = 0 then i1 else none

theorem slice_in {W : World} {s : Value} (h : SliceIn W s) (j : Nat) : ∃ (u : Value) (i : Option BI), (u = .slice none 0 0 ∨ ∃ n c, u = .slice (some ⟨j, 0, some 0⟩) n c) ∧ (∀ b, i = some b → b.b < W.heap.size) ∧
    ∀ ρ : Rho, ρ j = i → VR ρ u s := by
  rcases h with rfl | ⟨⟨b, o, sp⟩, n, c, rfl, hn, hb, hs⟩
  · exact ⟨_, none, .inl rfl, fun _ h => by simp at h, fun _ _ => .atom rfl⟩
  · simp only at hs hb; subst hs
    refine ⟨.slice (some ⟨j, 0, some 0⟩) n c, some ⟨b, o, o⟩, .inr ⟨n, c, rfl⟩, fun x hx => ?_, fun ρ hρ => .slice (i := ⟨b, o, o⟩) (sp := 0) hρ rfl hn (Nat.le_refl _) (fun h => by simp at h) (fun _ => rfl) (by simp)⟩
    simp only [Option.some.injEq] at hx; subst hx; exact hb

theorem calls (k : Int) (s1 : Value) (w : World) (h1 : SliceIn w s1) :
    Calls Tryz.prog 3 #[.int .i64 k, s1] w fun e w' => e = .returned (.bool true) ∧ Go.RowKit.Below w.heap.size w w' := by
  obtain ⟨u1, i1, a1, b1, c1⟩ := slice_in h1 0
  have hrun : at_ k u1 = true := by
    rcases a1 with rfl | ⟨n, c, rfl⟩
    · exact run0 k
    · exact run1 k n c
  obtain ⟨h', he⟩ := of_isTrue hrun
  have hno : ∀ a, h0.obj a = none := fun a => rfl
  refine eval_bool (ρ := rho i1) mixed he (.cons (.atom rfl) (.cons (c1 _ (by simp [rho])) .nil)) ⟨fun a i o _ h => by rw [hno] at h; simp at h, fun a a' i i' o o' _ _ h => by rw [hno] at h; simp at h, fun a i h => ?_⟩ ⟨fun a c h => by simp [h0, T.get] at h, fun a c h => by simp [h0, T.get] at h⟩ (fun x hx => ?_) (fun b a i o _ h => by rw [hno] at h; simp at h)
  · simp only [rho] at h
    split at h
    · exact b1 i h
    · simp at h
  · have hx : 1 ≤ x := hx
    simp [rho, show x ≠ 0 by omega]

set_option maxRecDepth 100000 in
/-- A slice of bytes that came in. -/
theorem slice_of {W : World} {base : Nat} {t e : TypeId} {v : Value} (ht : Tryz.prog.underlying t = some (.slice e)) (h : Value.okWide Tryz.prog W .any base t v) : SliceIn W v := by
  simp only [Value.okWide, ht, Cell.okWide] at h
  cases v <;> simp only [Cell.ok, ht] at h <;> try exact h.elim
  rename_i a n c
  cases a with
  | none =>
    left
    cases n <;> cases c <;> simp_all
  | some a =>
    obtain ⟨q1, _, _, q2, row, cells, q3, _⟩ := h
    refine .inr ⟨a, n, c, rfl, q1, ?_, q2⟩
    unfold World.shape? at q3
    rcases Nat.lt_or_ge a.block W.heap.size with hl | hl
    · exact hl
    · rw [Array.getElem?_eq_none hl] at q3; simp at q3

end Go.Proofs.YtfambljbjhiinaaGreatDoor.RunNobody

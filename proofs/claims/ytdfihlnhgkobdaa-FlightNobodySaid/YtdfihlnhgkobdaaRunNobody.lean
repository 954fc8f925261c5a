/- The law FlightNobody, run by the evaluator at any operation: its numbers are any, each of its two slices is nil or not. No conditions. -/
import Derived.Test.YtdfihlnhgkobdaaProg
import Derived.Test.YtdfihlnhgkobdaaEv20
import Derived.ProofKit
namespace Go.Proofs.Ytdfihlnhgkobdaa.RunNobody
open Go Go.Proofs.Ytdfihlnhgkobdaa.Ev

def isTrue (r : Except String (Value × H)) : Bool := match r with
  | .ok (.bool true, _) => true
  | _ => false
theorem of_isTrue {r : Except String (Value × H)} (h : isTrue r = true) : ∃ h', r = .ok (.bool true, h') := by
  unfold isTrue at h
  split at h
  · exact ⟨_, rfl⟩
  · simp at h

def h0 : H := ⟨.nil, 2, 0⟩
noncomputable def at_ (k id fl ty co of le : Int) (s1 s2 : Value) : Bool :=
  isTrue (callE Try.prog 100000 9 [.agg #[.int .i64 k, .int .i64 id, .int .u16 fl, .int .u16 ty, .int .u64 co, .int .u64 of, .int .u64 le, s1, s2]] h0)

theorem run00 (k id fl ty co of le : Int) : at_ k id fl ty co of le (.slice none 0 0) (.slice none 0 0) = true := by kernel_rfl
theorem run01 (k id fl ty co of le : Int) (n c : Nat) : at_ k id fl ty co of le (.slice none 0 0) (.slice (some ⟨1, 0, some 0⟩) n c) = true := by kernel_rfl
theorem run10 (k id fl ty co of le : Int) (n c : Nat) : at_ k id fl ty co of le (.slice (some ⟨0, 0, some 0⟩) n c) (.slice none 0 0) = true := by kernel_rfl
theorem run11 (k id fl ty co of le : Int) (n c n' c' : Nat) : at_ k id fl ty co of le (.slice (some ⟨0, 0, some 0⟩) n c) (.slice (some ⟨1, 0, some 0⟩) n' c') = true := by kernel_rfl

theorem mixed : Try.prog.follows .mixedOrders = true := by kernel_rfl

/-- A slice that came in. -/
def SliceIn (W : World) (s : Value) : Prop := s = .slice none 0 0 ∨ ∃ a n c, s = .slice (some a) n c ∧ n ≤ c ∧ a.block < W.heap.size ∧ a.spot = none

def rho (i1 i2 : Option BI) : Rho := fun x => if x = 0 then i1 else if x = 1 then i2 else none

theorem slice_in {W : World} {s : Value} (h : SliceIn W s) (j : Nat) : ∃ (u : Value) (i : Option BI), (u = .slice none 0 0 ∨ ∃ n c, u = .slice (some ⟨j, 0, some 0⟩) n c) ∧ (∀ b, i = some b → b.b < W.heap.size) ∧
    ∀ ρ : Rho, ρ j = i → VR ρ u s := by
  rcases h with rfl | ⟨⟨b, o, sp⟩, n, c, rfl, hn, hb, hs⟩
  · exact ⟨_, none, .inl rfl, fun _ h => by simp at h, fun _ _ => .atom rfl⟩
  · simp only at hs hb; subst hs
    refine ⟨.slice (some ⟨j, 0, some 0⟩) n c, some ⟨b, o, o⟩, .inr ⟨n, c, rfl⟩, fun x hx => ?_, fun ρ hρ => .slice (i := ⟨b, o, o⟩) (sp := 0) hρ rfl hn (Nat.le_refl _) (fun h => by simp at h) (fun _ => rfl) (by simp)⟩
    simp only [Option.some.injEq] at hx; subst hx; exact hb

theorem calls (k id fl ty co of le : Int) (s1 s2 : Value) (w : World) (h1 : SliceIn w s1) (h2 : SliceIn w s2) :
    Calls Try.prog 9 #[.agg #[.int .i64 k, .int .i64 id, .int .u16 fl, .int .u16 ty, .int .u64 co, .int .u64 of, .int .u64 le, s1, s2]] w fun e w' => e = .returned (.bool true) ∧ Go.RowKit.Below w.heap.size w w' := by
  obtain ⟨u1, i1, a1, b1, c1⟩ := slice_in h1 0
  obtain ⟨u2, i2, a2, b2, c2⟩ := slice_in h2 1
  have hrun : at_ k id fl ty co of le u1 u2 = true := by
    rcases a1 with rfl | ⟨n, c, rfl⟩ <;> rcases a2 with rfl | ⟨n', c', rfl⟩
    · exact run00 k id fl ty co of le
    · exact run01 k id fl ty co of le n' c'
    · exact run10 k id fl ty co of le n c
    · exact run11 k id fl ty co of le n c n' c'
  obtain ⟨h', he⟩ := of_isTrue hrun
  have hno : ∀ a, h0.obj a = none := fun a => rfl
  refine eval_bool (ρ := rho i1 i2) mixed he (.cons (.agg ?_) .nil) ⟨fun a i o _ h => by rw [hno] at h; simp at h, fun a a' i i' o o' _ _ h => by rw [hno] at h; simp at h, fun a i h => ?_⟩ ⟨fun a c h => by simp [h0, T.get] at h, fun a c h => by simp [h0, T.get] at h⟩ (fun x hx => ?_) (fun b a i o _ h => by rw [hno] at h; simp at h)
  · exact .cons (.atom rfl) (.cons (.atom rfl) (.cons (.atom rfl) (.cons (.atom rfl) (.cons (.atom rfl) (.cons (.atom rfl) (.cons (.atom rfl) (.cons (c1 _ (by simp [rho])) (.cons (c2 _ (by simp [rho])) .nil))))))))
  · simp only [rho] at h
    split at h
    · exact b1 i h
    · split at h
      · exact b2 i h
      · simp at h
  · have hx : 2 ≤ x := hx
    simp [rho, show x ≠ 0 by omega, show x ≠ 1 by omega]

set_option maxRecDepth 100000 in
/-- An operation that came in. -/
theorem op_in {W : World} {base : Nat} {v : Value} (h : Value.okWide Try.prog W .any base 38 v) :
    ∃ (k id fl ty co of le : Int) (s1 s2 : Value), v = .agg #[.int .i64 k, .int .i64 id, .int .u16 fl, .int .u16 ty, .int .u64 co, .int .u64 of, .int .u64 le, s1, s2] ∧ SliceIn W s1 ∧ SliceIn W s2 := by
  have hcells : Try.prog.cellsOf 38 = 9 := by kernel_rfl
  have htys : Try.prog.cellTypes Try.prog.depth 38 = some [3, 3, 32, 32, 33, 33, 33, 34, 34] := by kernel_rfl
  obtain ⟨cs, rfl, hsz, ts, hts, _, hall⟩ : ∃ cs, v = .agg cs ∧ cs.size = Try.prog.cellsOf 38 ∧ Row.okWide Try.prog W .any base 38 cs := by
    simpa [Value.okWide, Try.underlying38] using h
  rw [htys] at hts
  simp only [Option.some.injEq] at hts; subst hts
  rw [hcells] at hsz
  have cell : ∀ (i : Nat) (hi : i < 9), ∃ u, [3, 3, 32, 32, 33, 33, 33, 34, 34][i]? = some u ∧ Cell.okWide Try.prog W .any base u (cs[i]'(by omega)) := by
    intro i hi
    obtain ⟨u, k1, k2⟩ := hall i (cs[i]'(by omega)) (by simp)
    exact ⟨u, by simpa [Nat.mod_eq_of_lt hi] using k1, k2⟩
  have num : ∀ (i : Nat) (hi : i < 9) (t : TypeId) (kd : IntKind), [3, 3, 32, 32, 33, 33, 33, 34, 34][i]? = some t → Try.prog.underlying t = some (.int kd) → ∃ n, cs[i]'(by omega) = .int kd n := by
    intro i hi t kd e1 e2
    obtain ⟨u, k1, k2⟩ := cell i hi
    rw [e1] at k1; simp only [Option.some.injEq] at k1; subst k1
    generalize cs[i]'(by omega) = x at k2
    simp only [Cell.okWide, e2] at k2
    cases x <;> simp_all [Cell.ok]
  have sl : ∀ (i : Nat) (hi : i < 9), [3, 3, 32, 32, 33, 33, 33, 34, 34][i]? = some 34 → SliceIn W (cs[i]'(by omega)) := by
    intro i hi e1
    obtain ⟨u, k1, k2⟩ := cell i hi
    rw [e1] at k1; simp only [Option.some.injEq] at k1; subst k1
    generalize cs[i]'(by omega) = x at k2
    have e2 := Try.underlying34
    simp only [Cell.okWide, e2] at k2
    cases x <;> simp only [Cell.ok, e2] at k2 <;> try exact k2.elim
    rename_i a n c
    cases a with
    | none =>
      left
      cases n <;> cases c <;> simp_all
    | some a =>
      obtain ⟨q1, _, _, q2, row, cells, q3, _⟩ := k2
      refine .inr ⟨a, n, c, rfl, q1, ?_, q2⟩
      unfold World.shape? at q3
      rcases Nat.lt_or_ge a.block W.heap.size with hl | hl
      · exact hl
      · rw [Array.getElem?_eq_none hl] at q3; simp at q3
  obtain ⟨k, e0⟩ := num 0 (by omega) 3 .i64 rfl Try.underlying3
  obtain ⟨id, e1⟩ := num 1 (by omega) 3 .i64 rfl Try.underlying3
  obtain ⟨fl, e2⟩ := num 2 (by omega) 32 .u16 rfl Try.underlying32
  obtain ⟨ty, e3⟩ := num 3 (by omega) 32 .u16 rfl Try.underlying32
  obtain ⟨co, e4⟩ := num 4 (by omega) 33 .u64 rfl Try.underlying33
  obtain ⟨of, e5⟩ := num 5 (by omega) 33 .u64 rfl Try.underlying33
  obtain ⟨le, e6⟩ := num 6 (by omega) 33 .u64 rfl Try.underlying33
  refine ⟨k, id, fl, ty, co, of, le, cs[7]'(by omega), cs[8]'(by omega), ?_, sl 7 (by omega) rfl, sl 8 (by omega) rfl⟩
  congr 1
  refine Array.ext (by simpa using hsz) (fun i h1 h2 => ?_)
  have hi : i < 9 := by omega
  match i, hi with
  | 0, _ => exact e0
  | 1, _ => exact e1
  | 2, _ => exact e2
  | 3, _ => exact e3
  | 4, _ => exact e4
  | 5, _ => exact e5
  | 6, _ => exact e6
  | 7, _ => rfl
  | 8, _ => rfl

end Go.Proofs.Ytdfihlnhgkobdaa.RunNobody

/- The law ClientBreaks, run: joined. -/
import Derived.Test.YtdocmpnofklaoaaGreatDoorRunClientBreaks1
import Derived.Test.YtdocmpnofklaoaaGreatDoorRunClientBreaks2
namespace Go.Proofs.YtdocmpnofklaoaaGreatDoor.RunBreaks
open Go Go.Proofs.YtdocmpnofklaoaaGreatDoor.Ev
theorem noKT {P : Program} : KTOk P [] := fun _ h => by cases h
theorem ktOk : KTOk Tryz.prog kt := by
  intro e he
  obtain ⟨h1, o, q1, q2⟩ := CRes.of alive
  simp only [kt, List.mem_cons, List.not_mem_nil, or_false] at he
  subst he
  exact constCon_ok mixed rfl q1 (by rw [q2]; trivial)

theorem olds_ok (b : Bool) : distinctB (olds b) = true ∧ (olds b).length = (HA b).length := by cases b <;> exact ⟨rfl, rfl⟩
theorem look1 (b : Bool) (x : Int) (v : Value) : Looks (r1 b x v) .normal 132 [1, 2, 7] [.int .u8 x, rawV v, .pointer (some ⟨3, 0, none⟩)] [] [] True ∧ told b (r1 b x v) = true := by
  cases b with
  | false =>
    obtain ⟨h1, h2⟩ := Prod.mk.inj (pf x v)
    exact ⟨Looks.of h1, h2⟩
  | true =>
    obtain ⟨h1, h2⟩ := Prod.mk.inj (pt x v)
    exact ⟨Looks.of h1, h2⟩

theorem cov (b : Bool) (x : Int) (v : Value) : Cov 0 (GRes.fr (r1 b x v)) (GRes.hp (r1 b x v)) (mid x v) (heapOf (HA b)) := by
  obtain ⟨L, ht⟩ := look1 b x v
  have hs := slots_mem L.slots
  refine Cov.chk (olds b) _ (HA b) 100 L.nt L.df (fun p hp => ?_) ht (olds_ok b).1 (olds_ok b).2
  simp only [List.mem_cons, List.not_mem_nil, or_false] at hp
  have h1 := hs (1, .int .u8 x) (by simp)
  have h2 := hs (2, rawV v) (by simp)
  have h7 := hs (7, .pointer (some ⟨3, 0, none⟩)) (by simp)
  rcases hp with rfl | rfl | rfl
  · exact ⟨_, h1, .atom rfl⟩
  · exact ⟨_, h2, .raw⟩
  · refine ⟨_, h7, ?_⟩
    have : (olds b).getD 0 0 = 3 := by cases b <;> rfl
    have k := RV.ptr (σ := fun a => (olds b).getD a 0) (N := (HA b).length) (a := ⟨0, 0, none⟩) (by cases b <;> exact Nat.zero_lt_succ _) rfl
    simpa only [this] using k

theorem wp (W : World) (b : Bool) (x : Int) (hx : 0 ≤ x) (v : Value) : Wp Tryz.prog W 0 body (start b x v) H.empty fun ex s1 h1 => (∀ id, ex ≠ .exit id) ∧ (∀ d ∈ s1.df, d = none) ∧ resultsA Tryz.prog s1 h1.obj Tryz.f3.results.toList = some [.bool true] := by
  rw [bodyS]
  have L0 := Looks.of (q0 b x v)
  obtain ⟨L1, _⟩ := look1 b x v
  refine Wp.seq (Wp.run mixed noKT rfl L0.ok (by rw [L0.ob]; trivial) ?_)
  rw [L0.ex]
  refine Wp.seq (Wp.run mixed noKT rfl L1.ok (by rw [L1.ob]; trivial) ?_)
  rw [L1.ex]
  refine Wp.cov (cov b x v) ?_
  have hr : x.toNat % 6 < 6 := Nat.mod_lt _ (by decide)
  have L2 := looks b (x.toNat % 6) hr x v
  refine Wp.run mixed ktOk rfl L2.ok ?_ ?_
  · rw [L2.ob]
    refine ⟨⟨trivial, ?_⟩, rfl⟩
    obtain ⟨n, rfl⟩ := Int.eq_ofNat_of_zero_le hx
    rfl
  · rw [L2.ex]
    refine ⟨fun id h => (by cases h), (by rw [L2.df]; simp), ?_⟩
    have h6 := slots_mem L2.slots (6, .bool true) (by simp)
    rw [show Tryz.f3.results.toList = [.tmp 6] by kernel_rfl]
    simp only at h6
    simp only [resultsA, h6, known, cond_true]

theorem ntmps : Tryz.f3.ntmps = 132 := by kernel_rfl
theorem calls (W : World) (b : Bool) (x : Int) (hx : 0 ≤ x) {v : Value} (hv : v.oneCell' = true) (hb : ∀ c, v ≠ .bool c) : Calls Tryz.prog 3 #[.bool b, .int .u8 x, v] W fun e w' => e = .returned (.bool true) ∧ Go.RowKit.Below W.heap.size W w' := by
  refine law_true (args := [.bool b, .int .u8 x, rawV v]) Tryz.func3 bodyE (by rw [ntmps]; exact Nat.le_of_ble_eq_true rfl) (.cons (.atom rfl) (.cons (.atom rfl) (.cons (.raw hv hb) .nil))) ?_
  rw [ntmps]
  exact wp W b x hx v
end Go.Proofs.YtdocmpnofklaoaaGreatDoor.RunBreaks

/- The law FlightMakes, run by the evaluator at every size: below 1, at 1 to 64, above 64. No conditions. -/
import Derived.Test.YtdfihlnhgkobdaaProg
import Derived.Test.YtdfihlnhgkobdaaEv20
namespace Go.Proofs.Ytdfihlnhgkobdaa.RunMakes
open Go Go.Proofs.Ytdfihlnhgkobdaa.Ev

def isTrue (r : Except String (Value × H)) : Bool := match r with
  | .ok (.bool true, _) => true
  | _ => false
theorem of_isTrue {r : Except String (Value × H)} (h : isTrue r = true) : ∃ h', r = .ok (.bool true, h') := by
  unfold isTrue at h
  split at h
  · exact ⟨_, rfl⟩
  · simp at h

noncomputable def at_ (m : Int) : Bool := isTrue (callE Try.prog 100000 4 [.int .i64 m] H.empty)

theorem below (k : Nat) : at_ (.negSucc k) = true := by kernel_rfl
theorem above (k : Nat) : at_ (.ofNat (k + 65)) = true := by kernel_rfl
theorem within0 : (List.range' 0 17).all (fun k => at_ (.ofNat k)) = true := by kernel_rfl
theorem within1 : (List.range' 17 16).all (fun k => at_ (.ofNat k)) = true := by kernel_rfl
theorem within2 : (List.range' 33 16).all (fun k => at_ (.ofNat k)) = true := by kernel_rfl
theorem within3 : (List.range' 49 16).all (fun k => at_ (.ofNat k)) = true := by kernel_rfl

theorem everywhere (m : Int) : at_ m = true := by
  cases m with
  | negSucc k => exact below k
  | ofNat k =>
    rcases Nat.lt_or_ge k 65 with h | h
    · rcases Nat.lt_or_ge k 17 with h0 | h0
      · exact List.all_eq_true.1 within0 k (by simp [List.mem_range'_1]; omega)
      · rcases Nat.lt_or_ge k 33 with h1 | h1
        · exact List.all_eq_true.1 within1 k (by simp [List.mem_range'_1]; omega)
        · rcases Nat.lt_or_ge k 49 with h2 | h2
          · exact List.all_eq_true.1 within2 k (by simp [List.mem_range'_1]; omega)
          · exact List.all_eq_true.1 within3 k (by simp [List.mem_range'_1]; omega)
    · obtain ⟨j, rfl⟩ : ∃ j, k = j + 65 := ⟨k - 65, by omega⟩
      exact above j

theorem mixed : Try.prog.follows .mixedOrders = true := by kernel_rfl

theorem HR.none {w : World} : HR (fun _ => .none) H.empty.obj w := ⟨fun _ _ _ h => by simp at h, fun _ _ _ _ _ _ h => by simp at h, fun _ _ h => by simp at h⟩
theorem WFH.empty : WFH H.empty := ⟨fun _ _ h => by simp [H.empty, T.get] at h, fun _ _ h => by simp [H.empty, T.get] at h⟩

theorem calls (m : Int) (w : World) : Calls Try.prog 4 #[.int .i64 m] w fun e w' => e = .returned (.bool true) ∧ Go.RowKit.Below w.heap.size w w' := by
  obtain ⟨h', he⟩ := of_isTrue (everywhere m)
  exact eval_bool mixed he (.cons (.atom rfl) .nil) HR.none WFH.empty (fun _ _ => rfl) (fun _ _ _ _ h => by simp at h)

end Go.Proofs.Ytdfihlnhgkobdaa.RunMakes

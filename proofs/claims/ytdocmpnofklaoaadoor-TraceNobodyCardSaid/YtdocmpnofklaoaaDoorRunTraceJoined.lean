/- The law TraceNobody, run: joined. -/
import Derived.Test.YtdocmpnofklaoaaDoorRunTraceNobody
namespace Go.Proofs.YtdocmpnofklaoaaDoor.RunNobody
open Go Go.Proofs.YtdocmpnofklaoaaDoor.Ev
/-! ### Joined -/

theorem RV.nums {N : Nat} : ∀ {l : List Value}, l.all okAtom = true → ∀ v ∈ l, RV id N v v := fun h v hv => .atom (List.all_eq_true.1 h v hv)

theorem box_RO (N : Nat) : RO id N box box := by
  refine .row rfl (Nat.le_refl _) (fun j v hj hv => ⟨v, hv, ?_⟩)
  rw [T.get_ofListFrom] at hv
  split at hv
  · exact RV.nums (l := [.pointer none, .pointer none, .int .u32 0, .bool false, .bool false, .slice none 0 0, .bool false, .bool false, .bool false, .map none, .int .i64 0, .int .i64 0, .int .i64 0, .int .i64 0, .int .u64 0, .int .u64 0]) rfl v (List.mem_of_getElem? hv)
  · cases hv

section
variable {W : World} {n cp m b o : Nat} {F : Nat → Option Value} {pb : Bool}

theorem wfc (m : Nat) (F : Nat → Option Value) (pb : Bool) : WFH (Hc m F pb) := by
  have h1 : WFH (H0 m F) := (AExt.new _ _).wf WFH.empty
  cases pb with
  | false => exact h1
  | true => exact (AExt.new _ _).wf h1
theorem Hc_obj (m : Nat) (F : Nat → Option Value) (pb : Bool) {a : Nat} {x : AObj} (h : (Hc m F pb).obj a = some x) : (a = 0 ∧ x = .row m (.fn F) roT) ∨ (a = 1 ∧ x = box ∧ pb = true) := by
  cases pb with
  | false =>
    simp only [Hc, H0] at h
    rw [H.obj_new, show H.empty.next = 0 from rfl] at h
    by_cases e : a = 0
    · rw [if_pos e] at h; simp at h; exact .inl ⟨e, h.symm⟩
    · rw [if_neg e] at h; simp [H.empty, H.obj, T.get] at h
  | true =>
    simp only [Hc, H0] at h
    rw [H.obj_new, show (H.empty.new (AObj.row m (T.fn F) roT)).next = 1 from rfl] at h
    by_cases e1 : a = 1
    · rw [if_pos e1] at h; simp at h; exact .inr ⟨e1, h.symm, rfl⟩
    · rw [if_neg e1, H.obj_new, show H.empty.next = 0 from rfl] at h
      by_cases e : a = 0
      · rw [if_pos e] at h; simp at h; exact .inl ⟨e, h.symm⟩
      · rw [if_neg e] at h; simp [H.empty, H.obj, T.get] at h

/-- A state that looks so may be told so. -/
theorem cov (hF : ∀ N j v, F j = some v → RV id N v v) {r : GRes} {ex : AEx} {i : Nat} {ob : Prop} (L : Looks r ex 43 [0, 5, 6] [script n cp, tr pb, .int .i64 i] [0, 1] [some (.row m (.fn F) roT), if pb then some box else none] ob) :
    Cov 0 (GRes.fr r) (GRes.hp r) (at_ n cp i pb) (Hc m F pb) := by
  have hs := slots_mem L.slots
  have ho := L.objs
  simp only [GRes.objs, List.map_cons, List.map_nil, List.cons.injEq, and_true] at ho
  refine Cov.same (Nat.zero_le _) L.nt L.df (wfc m F pb) (fun p hp => ⟨hs p (by simpa using hp), ?_⟩) (fun a x hx hl hlt => ?_)
  · simp only [List.mem_cons, List.not_mem_nil, or_false] at hp
    rcases hp with rfl | rfl | rfl
    · exact .slice (a := ⟨0, 0, some 5⟩) (by cases pb <;> exact Nat.zero_lt_succ _)
    · cases pb with
      | false => exact .atom rfl
      | true => exact .ptr (a := ⟨1, 0, none⟩) (Nat.lt_succ_self 1) rfl
    · exact .atom rfl
  · rcases Hc_obj m F pb hx with ⟨rfl, rfl⟩ | ⟨rfl, rfl, rfl⟩
    · exact ⟨_, ho.1, rfl, .row rfl (Nat.le_refl _) (fun j v _ hv => ⟨v, hv, hF _ _ _ hv⟩)⟩
    · exact ⟨_, ho.2, rfl, box_RO _⟩

theorem look_round (pb : Bool) (i : Nat) (bv : Bool) (dv : Value) : ∃ k, Looks (round n cp m i pb F (orcT bv dv i k)) .normal 43 [0, 5, 6] [script n cp, tr pb, .int .i64 (Int.ofNat (i + 1))] [0, 1] [some (.row m (.fn F) roT), if pb then some box else none] (obT n m i F bv dv) := by
  cases pb with
  | false => exact ⟨25, Looks.of (roundF n cp m i F bv dv)⟩
  | true => exact ⟨30, Looks.of (roundT n cp m i F bv dv)⟩
theorem look_over (pb : Bool) (i : Nat) : Looks (round n cp m i pb F orcE) (.exit 0) 43 [0, 5, 6] [script n cp, tr pb, .int .i64 i] [0, 1] [some (.row m (.fn F) roT), if pb then some box else none] (True ∧ Value.bool (Nat.blt i n) = .bool false) := by
  cases pb with
  | false => exact Looks.of (overF n cp m i F)
  | true => exact Looks.of (overT n cp m i F)
theorem look_pre (pb : Bool) (v : Value) : Looks (p3 n cp m pb F v) .normal 43 [0, 5, 6] [script n cp, tr pb, .int .i64 0] [0, 1] [some (.row m (.fn F) roT), if pb then some box else none] True := by
  cases pb with
  | false => exact Looks.of (preF n cp m F v)
  | true => exact Looks.of (preT n cp m F v)
theorem look_fin (pb : Bool) : Looks (fin pb) .ret 43 [4] [.bool true] [] [] True := by
  cases pb with
  | false => exact Looks.of finF
  | true => exact Looks.of finT

theorem wfe (pb : Bool) : WFH (Hend pb) := by
  have h1 : WFH (H.empty.new .dead) := (AExt.new _ _).wf WFH.empty
  cases pb with
  | false => exact h1
  | true => exact (AExt.new _ _).wf h1
theorem Hend_obj (pb : Bool) {a : Nat} {x : AObj} (h : (Hend pb).obj a = some x) (hl : x.live = true) : a = 1 ∧ x = box ∧ pb = true := by
  cases pb with
  | false =>
    simp only [Hend] at h
    rw [H.obj_new, show H.empty.next = 0 from rfl] at h
    by_cases e : a = 0
    · rw [if_pos e] at h; simp at h; subst h; simp [AObj.live] at hl
    · rw [if_neg e] at h; simp [H.empty, H.obj, T.get] at h
  | true =>
    simp only [Hend] at h
    rw [H.obj_new, show (H.empty.new AObj.dead).next = 1 from rfl] at h
    by_cases e1 : a = 1
    · rw [if_pos e1] at h; simp at h; exact ⟨e1, h.symm, rfl⟩
    · rw [if_neg e1, H.obj_new, show H.empty.next = 0 from rfl] at h
      by_cases e : a = 0
      · rw [if_pos e] at h; simp at h; subst h; simp [AObj.live] at hl
      · rw [if_neg e] at h; simp [H.empty, H.obj, T.get] at h
theorem cov_end {r : GRes} {ex : AEx} {i : Nat} {ob : Prop} (L : Looks r ex 43 [0, 5, 6] [script n cp, tr pb, .int .i64 i] [0, 1] [some (.row m (.fn F) roT), if pb then some box else none] ob) :
    Cov 0 (GRes.fr r) (GRes.hp r) (frOf 43 [(5, tr pb)]) (Hend pb) := by
  have hs := slots_mem L.slots
  have ho := L.objs
  simp only [GRes.objs, List.map_cons, List.map_nil, List.cons.injEq, and_true] at ho
  refine Cov.same (Nat.zero_le _) L.nt L.df (wfe pb) (fun p hp => ⟨?_, ?_⟩) (fun a x hx hl hlt => ?_)
  · simp only [List.mem_cons, List.not_mem_nil, or_false] at hp
    subst hp
    exact hs (5, tr pb) (by simp)
  · simp only [List.mem_cons, List.not_mem_nil, or_false] at hp
    subst hp
    cases pb with
    | false => exact .atom rfl
    | true => exact .ptr (a := ⟨1, 0, none⟩) (Nat.lt_succ_self 1) rfl
  · obtain ⟨rfl, rfl, rfl⟩ := Hend_obj pb hx hl
    exact ⟨_, ho.2, rfl, box_RO _⟩

theorem wp (hF : ∀ N j v, F j = some v → RV id N v v) (hcell : ∀ i, i < n → ∃ bv dv, F ((0 + i * 2) + 0) = some (.bool bv) ∧ F ((0 + i * 2) + 1) = some (rawV dv)) (hm : n * 2 ≤ m) (hn : n ≤ 9223372036854775807) (v : Value) :
    Wp Tryd.prog W 0 body (start n cp pb v) (H0 m F) fun ex s1 h1 => (∀ id, ex ≠ .exit id) ∧ (∀ d ∈ s1.df, d = none) ∧ resultsA Tryd.prog s1 h1.obj Tryd.f3.results.toList = some [.bool true] := by
  rw [bodyS]
  have L0 := Looks.of (q0 n cp m pb F v)
  have L1 := Looks.of (q1 n cp m pb F v)
  have L2 : Looks (p2 n cp m pb F v) .normal 43 [] [] [] [] True := by
    cases pb with
    | false => exact Looks.of (q2F n cp m F v)
    | true => exact Looks.of (q2T n cp m F v)
  have L3 := look_pre (n := n) (cp := cp) (m := m) (F := F) pb v
  refine Wp.seq (Wp.run mixed noKT rfl L0.ok (by rw [L0.ob]; trivial) ?_)
  rw [L0.ex]
  refine Wp.seq (Wp.run mixed noKT rfl L1.ok (by rw [L1.ob]; trivial) ?_)
  rw [L1.ex]
  refine Wp.seq (Wp.run mixed noKT rfl L2.ok (by rw [L2.ob]; trivial) ?_)
  rw [L2.ex]
  refine Wp.seq (Wp.seq (Wp.run mixed noKT rfl L3.ok (by rw [L3.ob]; trivial) ?_))
  rw [L3.ex]
  -- the loop
  refine Wp.block (Wp.loop (fun k s h => ∃ i, i ≤ n ∧ k = n - i ∧ Cov 0 s h (at_ n cp i pb) (Hc m F pb)) ?_ (n - 0) _ _ ⟨0, Nat.zero_le _, rfl, cov hF L3⟩)
  rintro k s h ⟨i, hi, rfl, hc⟩
  refine Wp.cov hc ?_
  by_cases hlt : i < n
  · obtain ⟨bv, dv, e1, e2⟩ := hcell i hlt
    obtain ⟨j, L⟩ := look_round (n := n) (cp := cp) (m := m) (F := F) pb i bv dv
    refine Wp.run mixed noKT rfl L.ok ?_ ?_
    · rw [L.ob]
      refine ⟨⟨⟨⟨⟨⟨trivial, ?_⟩, hlt⟩, by omega, e1⟩, hlt⟩, by omega, e2⟩, ?_⟩
      · rw [blt_of hlt]
      · show Value.int .i64 (IntKind.i64.wrap ((i : Int) + 1)) = _
        rw [wrap_i64 (by omega) (by omega)]; rfl
    · rw [L.ex]
      exact ⟨n - (i + 1), by omega, i + 1, by omega, rfl, cov hF L⟩
  · have L := look_over (n := n) (cp := cp) (m := m) (F := F) pb i
    refine Wp.run mixed noKT rfl L.ok ?_ ?_
    · rw [L.ob]
      refine ⟨trivial, ?_⟩
      have : Nat.blt i n = false := by
        cases hb : Nat.blt i n with
        | false => rfl
        | true => rw [Nat.blt_eq] at hb; exact absurd hb hlt
      rw [this]
    · rw [L.ex]
      simp only [if_true]
      -- what comes behind it
      have hcv := cov hF L
      have Lf := look_fin pb
      refine Wp.cov (cov_end L) (Wp.run mixed noKT rfl Lf.ok (by rw [Lf.ob]; trivial) ?_)
      · rw [Lf.ex]
        refine ⟨fun id h => (by cases h), (by rw [Lf.df]; simp), ?_⟩
        have h4 := slots_mem Lf.slots (4, .bool true) (by simp)
        rw [show Tryd.f3.results.toList = [.tmp 4] by kernel_rfl]
        simp only at h4
        simp only [resultsA, h4, known, cond_true]
theorem done {r : GRes} (L : Looks r .ret 43 [4] [.bool true] [] [] True) : (∀ id, GRes.ex r ≠ .exit id) ∧ (∀ d ∈ (GRes.fr r).df, d = none) ∧ resultsA Tryd.prog (GRes.fr r) (GRes.hp r).obj Tryd.f3.results.toList = some [.bool true] := by
  rw [L.ex]
  refine ⟨fun id h => (by cases h), (by rw [L.df]; simp), ?_⟩
  have h4 := slots_mem L.slots (4, .bool true) (by simp)
  rw [show Tryd.f3.results.toList = [.tmp 4] by kernel_rfl]
  simp only at h4
  simp only [resultsA, h4, known, cond_true]

theorem ntmps : Tryd.f3.ntmps = 43 := by kernel_rfl

theorem calls_nil (W : World) (pb : Bool) : Calls Tryd.prog 3 #[.slice none 0 0, .bool pb] W fun e w' => e = .returned (.bool true) ∧ Go.RowKit.Below W.heap.size W w' := by
  refine law_true (args := [.slice none 0 0, .bool pb]) Tryd.func3 bodyE (by rw [ntmps]; simp) (.cons (.atom rfl) (.cons (.atom rfl) .nil)) ?_
  rw [ntmps]
  have L : Looks (whole pb) .ret 43 [4] [.bool true] [] [] True := by
    cases pb with
    | false => exact Looks.of wholeF
    | true => exact Looks.of wholeT
  exact Wp.run mixed noKT rfl L.ok (by rw [L.ob]; trivial) (done L)

theorem calls_zero (W : World) (pb : Bool) {b o : Nat} (hb : b < W.heap.size) : Calls Tryd.prog 3 #[.slice (some ⟨b, o, none⟩) 0 0, .bool pb] W fun e w' => e = .returned (.bool true) ∧ Go.RowKit.Below W.heap.size W w' := by
  refine law_true (args := [rawV (.slice (some ⟨b, o, none⟩) 0 0), .bool pb]) Tryd.func3 bodyE (by rw [ntmps]; simp) (.cons (.raw rfl (fun _ h => by cases h)) (.cons (.atom rfl) .nil)) ?_
  rw [ntmps]
  refine Wp.reveal0 (t := 0) (z := 2) rfl hb ?_
  have L : Looks (whole0 pb (.slice (some ⟨b, o, none⟩) 0 0)) .ret 43 [4] [.bool true] [] [] True := by
    cases pb with
    | false => exact Looks.of (whole0F _)
    | true => exact Looks.of (whole0T _)
  exact Wp.run (r := whole0 pb (.slice (some ⟨b, o, none⟩) 0 0)) mixed noKT rfl L.ok (by rw [L.ob]; trivial) (done L)

theorem calls_some (W : World) (pb : Bool) {b o n cp : Nat} {arr : Array Value} {e' : TypeId} {fr : Nat × Nat} (hnc : n ≤ cp) (hcp : cp ≤ maxLen) (hb : W.heap[b]? = some (.cells arr e' fr)) (hpos : 0 < cp)
    (hel : ∀ i, i < cp → ∃ bv dv, arr[o + i * 2]? = some (.bool bv) ∧ arr[o + i * 2 + 1]? = some dv ∧ dv.oneCell' = true ∧ ∀ c, dv ≠ .bool c) :
    Calls Tryd.prog 3 #[.slice (some ⟨b, o, none⟩) n cp, .bool pb] W fun e w' => e = .returned (.bool true) ∧ Go.RowKit.Below W.heap.size W w' := by
  refine law_true (args := [rawV (.slice (some ⟨b, o, none⟩) n cp), .bool pb]) Tryd.func3 bodyE (by rw [ntmps]; simp) (.cons (.raw rfl (fun _ h => by cases h)) (.cons (.atom rfl) .nil)) ?_
  rw [ntmps]
  let F : Nat → Option Value := fun j => if j < cp * 2 then (match arr[o + j]? with
    | some (.bool c) => some (.bool c)
    | some v => some (rawV v)
    | none => none) else none
  have hsz : o + cp * 2 ≤ arr.size := by
    obtain ⟨_, _, _, h2, _⟩ := hel (cp - 1) (by omega)
    have := (Array.getElem?_eq_some_iff.1 h2).1
    omega
  have cellAt : ∀ j, j < cp * 2 → ∃ v, arr[o + j]? = some v ∧ (v.oneCell' = true ∨ ∃ c, v = .bool c) := by
    intro j hj
    obtain ⟨bv, dv, h1, h2, h3, h4⟩ := hel (j / 2) (by omega)
    rcases Nat.mod_two_eq_zero_or_one j with hm | hm
    · exact ⟨_, by rw [show o + j = o + j / 2 * 2 by omega]; exact h1, .inr ⟨_, rfl⟩⟩
    · exact ⟨_, by rw [show o + j = o + j / 2 * 2 + 1 by omega]; exact h2, .inl h3⟩
  have hFv : ∀ j v, F j = some v → j < cp * 2 ∧ ((∃ c, v = .bool c ∧ arr[o + j]? = some (.bool c)) ∨ ∃ u, v = rawV u ∧ arr[o + j]? = some u ∧ u.oneCell' = true ∧ ∀ c, u ≠ .bool c) := by
    intro j v hv
    simp only [F] at hv
    by_cases hj : j < cp * 2
    · rw [if_pos hj] at hv
      refine ⟨hj, ?_⟩
      obtain ⟨u, h1, h2⟩ := cellAt j hj
      rw [h1] at hv ⊢
      split at hv
      · rename_i c hc; simp at hv hc; subst hv; subst hc; exact .inl ⟨c, rfl, rfl⟩
      · rename_i w hne hw
        simp at hv hw; subst hv; subst hw
        refine .inr ⟨u, rfl, rfl, ?_, fun c hc => hne c (by rw [hc])⟩
        rcases h2 with h2 | ⟨c, hc⟩
        · exact h2
        · exact absurd hc (fun hc => hne c (by rw [hc]))
      · cases hv
    · rw [if_neg hj] at hv; cases hv
  refine Wp.reveal (t := 0) (z := 2) (m := cp * 2) (cs := .fn F) rfl hnc ⟨⟨arr, e', fr, hb, hsz, hsz, fun j v hj hv => ?_⟩⟩ ?_
  · rcases (hFv j v hv).2 with ⟨c, rfl, h1⟩ | ⟨u, rfl, h1, h2, h3⟩
    · exact ⟨_, h1, fun ρ => .atom rfl⟩
    · exact ⟨_, h1, fun ρ => .raw h2 h3⟩
  · refine wp (F := F) (m := cp * 2) (fun N j v hv => ?_) (fun i hi => ?_) (by omega) (by unfold maxLen at hcp; omega) _
    · rcases (hFv j v hv).2 with ⟨c, rfl, h1⟩ | ⟨u, rfl, h1, h2, h3⟩
      · exact .atom rfl
      · exact .raw
    · obtain ⟨bv, dv, h1, h2, h3, h4⟩ := hel i (by omega)
      refine ⟨bv, dv, ?_, ?_⟩
      · simp only [F]
        rw [if_pos (by omega), show o + (0 + i * 2 + 0) = o + i * 2 by omega, h1]
      · simp only [F]
        rw [if_pos (by omega), show o + (0 + i * 2 + 1) = o + i * 2 + 1 by omega, h2]
        cases dv <;> first | rfl | exact absurd rfl (h4 _)
end
end Go.Proofs.YtdocmpnofklaoaaDoor.RunNobody

/- The law TraceNobody answers true at any script; the row, and its card, tied to the program's text. No conditions. -/
import Derived.Test.YtdocmpnofklaoaaDoorRows
import Derived.Test.YtdocmpnofklaoaaDoorCards
import Derived.Test.YtdocmpnofklaoaaDoorTie
import Derived.Test.YtdocmpnofklaoaaDoorRunTraceJoined
import Derived.WalkKit
import Derived.ProofKit
import Derived.OpenShut
import Derived.Below
import Derived.Carry
import Derived.SizedLaws
import Derived.LaidMore
import Derived.Stop.Joined
import Derived.SevenTiedAt
import Derived.Lay
import Derived.ChangeSame
namespace Go.Proofs.YtdocmpnofklaoaaDoor.traceNobody
open Go.ChangeShapes Go.WideShapes Go.ChangeAt Go.RowKit
set_option linter.unusedVariables false
theorem own : ownKnob Tryd.prog.godebug = none := by kernel_rfl
theorem laidOut : laidOutB Tryd.prog = true := by kernel_rfl
theorem cells37 : Tryd.prog.cellsOf 37 = 2 := by kernel_rfl
theorem cells4 : Tryd.prog.cellsOf 4 = 1 := by kernel_rfl
theorem cells35 : Tryd.prog.cellsOf 35 = 1 := by kernel_rfl

set_option maxRecDepth 100000 in
/-- What one side has said, as it stands in memory. -/
theorem said_in {H : Type} {enc : TypeId × Value → H} {W : World} {fuel : Nat} {cs : List Value} {x : DataW H × List MemPlace} (h : DataW.trod enc Tryd.prog W 0 (fun _ => true) true fuel 37 cs = some x) :
    ∃ bv dv, cs = [.bool bv, dv] ∧ dv.oneCell' = true ∧ ∀ c, dv ≠ .bool c := by
  obtain ⟨y0, y1, n, _, hl, e0, e1⟩ := trod_struct2 Tryd.underlying37 h
  rw [cells37] at hl
  match cs, hl with
  | [u, dv], _ =>
    change DataW.trod enc Tryd.prog W 0 (fun _ => true) true n 4 ((([u, dv] : List Value).drop 0).take (Tryd.prog.cellsOf 4)) = some y0 at e0
    change DataW.trod enc Tryd.prog W 0 (fun _ => true) true n 35 ((([u, dv] : List Value).drop 1).take (Tryd.prog.cellsOf 35)) = some y1 at e1
    rw [cells4] at e0
    rw [cells35] at e1
    change DataW.trod enc Tryd.prog W 0 (fun _ => true) true n 4 [u] = some y0 at e0
    change DataW.trod enc Tryd.prog W 0 (fun _ => true) true n 35 [dv] = some y1 at e1
    obtain ⟨bv, hb, _⟩ := DataW.trod_bool Tryd.underlying4 e0
    simp only [List.cons.injEq, and_true] at hb
    subst hb
    rcases DataW.trod_slice Tryd.underlying35 e1 with ⟨hs, _⟩ | ⟨a, len, cap, _, _, _, _, hs, _⟩ <;>
    · simp only [List.cons.injEq, and_true] at hs
      subst hs
      exact ⟨bv, _, rfl, rfl, fun c h => by cases h⟩

set_option maxRecDepth 100000 in
theorem lifted (os : Os) (started : os.Started) (H : Type) (enc : TypeId × Value → H) :
    ReturnsInHanded {} Tryd.checked os 3 .any (fun w args => (Rows.traceNobodySpec.pre enc Tryd.prog Tryd.f3 [] false w args ∧ laidMetH Tryd.prog Rows.traceNobodyRow.laid w) ∧ sizedMet enc Tryd.prog Tryd.f3 (OpenSpec.ofChange Rows.traceNobodySpec) false w args)
      (Rows.traceNobodySpec.post enc Tryd.prog Tryd.f3 false true false false) := by
  refine returnsInHanded_of_change_and (C := Tryd.checked) (X := fun w _ => laidMetH Tryd.prog Rows.traceNobodyRow.laid w) (fun _ _ _ hh h => h.of_heap hh) own started (by kernel_rfl) Tryd.func3
    (ChangeSpec.witness_shaped (enc := enc) (C := Tryd.checked) (os := os) (X := fun w _ => laidMetH Tryd.prog Rows.traceNobodyRow.laid w) false (World.laidAll Tryd.prog os Rows.traceNobodyRow.laid) #[.slice none 0 0, .bool false] 8 (World.laidAll_os _ _ _) (World.shaped_of_ZipB (by kernel_rfl) (by kernel_rfl)) (by kernel_rfl) (by kernel_rfl) (by kernel_rfl)
      (by rw [MakeChecks.laidMetH_plain _ _ _ (by kernel_rfl)]; exact laidMet_laidAll _ (by kernel_rfl) (by kernel_rfl))) ?_
  intro W base args ds gs before hval0 hW _ _ hL _
  have hval : ∀ (j : Nat) t v, Tryd.f3.params[j]? = some t → args[j]? = some v → Value.okWide Tryd.prog W .any base t v := hval0
  have hW' := hW
  obtain ⟨p, q, hA0, hV, rfl, hfz, hnd⟩ := hW
  have hA : DataW.TrodAll enc Tryd.prog W 0 (fun _ => true) true Tryd.f3.params.toList args.toList ds p := hA0
  rw [Tryd.params3] at hA hval
  obtain ⟨v0, v1, d0, d1, p0, p1, rfl, rfl, rfl, h0, h1⟩ := trodAll_two hA
  obtain ⟨rfl, rfl⟩ := trodVars_none hV
  obtain ⟨pb, rfl, rfl, rfl⟩ := open_bool Tryd.underlying4 (hval 1 4 v1 rfl rfl) h1
  have hin := Ev.slice_open Tryd.underlying22 cells37 h0 (hval 0 22 v0 rfl rfl)
  clear hA0 hval0
  simp only [List.append_nil] at hW'
  have hlt : ∀ x ∈ p0, x.block < W.heap.size := fun x hx => hW'.lt x (by simpa using hx)
  have hcalls : Calls Tryd.prog 3 #[v0, .bool pb] W fun e w' => e = .returned (.bool true) ∧ Go.RowKit.Below W.heap.size W w' := by
    rcases hin with rfl | ⟨b, o, n, cp, arr, e', fr, rfl, hnc, hcp, hb, hel⟩
    · exact RunNobody.calls_nil W pb
    · rcases Nat.eq_zero_or_pos cp with rfl | hpos
      · have : n = 0 := by omega
        subst this
        refine RunNobody.calls_zero W pb ?_
        rcases Nat.lt_or_ge b W.heap.size with k | k
        · exact k
        · rw [Array.getElem?_eq_none k] at hb; cases hb
      · refine RunNobody.calls_some W pb hnc hcp hb hpos (fun i hi => ?_)
        obtain ⟨fuel, cs, x, hl, hcell, htrod⟩ := hel i hi
        obtain ⟨bv, dv, rfl, q1, q2⟩ := said_in htrod
        exact ⟨bv, dv, hcell 0 (by decide), hcell 1 (by decide), q1, q2⟩
  refine hcalls.mono fun e W' ⟨he, bel⟩ => ?_
  subst he
  have harg := Below.trod laidOut (by kernel_rfl) (of_decide_eq_true (by kernel_rfl)) h0 bel hlt
  exact ⟨_, rfl, _, _, _, [], _, [], hW', trodAll_mk1 (shut_bool Tryd.underlying4 _), trodAll_mk2 harg (shut_bool Tryd.underlying4 _), rfl, bel.frame _, fun h => by cases h⟩
theorem over : Rows.traceNobodyRow.holds Tryd.pinned (OpenSpec.ofChange Rows.traceNobodySpec) :=
  OpenClaim.holds_of_wide 3 Tryd.f3 rfl rfl rfl rfl rfl rfl rfl ⟨rfl, rfl, rfl, rfl, rfl⟩ rfl rfl rfl rfl rfl (by kernel_rfl) Tryd.func3 (by kernel_rfl)
    (of_decide_eq_true (by kernel_rfl)) (by unfold Func.isWrapper; first | (rw [if_pos (by decide +kernel)]; kernel_rfl) | (rw [if_neg (by decide +kernel)]; exact ⟨rfl, rfl⟩))
    (fun os started H enc _ => lifted os started H enc)
theorem proved : Rows.TraceNobodySaid := over

theorem card : Rows.TraceNobodyCardSaid :=
  Claim7.holds_tied_plain_at .later [] [.data, .data, .data] true (true, "792a317f535acd6c682ad5c5c32c61b11fe91c05107624f00eda2dcd280c7482") false
    over (fun _ h => by cases h) (by kernel_rfl) (fun _ h => by cases h) traceNobody_row_tie rfl ⟨rfl, rfl⟩ (by kernel_rfl) rfl
    (fun f fn hf hfn => by
      obtain rfl : f = 3 := Option.some.inj ((show Tryd.prog.funcNamed "spindle/spindlelaw22.TraceNobody" = some 3 by kernel_rfl).symm.trans hf) |>.symm
      obtain rfl : fn = Tryd.f3 := (Option.some.inj (Tryd.func3.symm.trans hfn)).symm
      exact ⟨by kernel_rfl, fun j t ht => by
        rw [Tryd.params3] at ht
        have hm : t ∈ [22, 4] := by simpa using Array.mem_of_getElem? ht
        have hall : ([22, 4].all fun u => !Tryd.prog.wantsStandIn u) = true := by kernel_rfl
        exact (show Tryd.prog.wantsStandIn t = false by simpa using List.all_eq_true.1 hall t hm)⟩)
    (by kernel_rfl)
#print axioms card
end Go.Proofs.YtdocmpnofklaoaaDoor.traceNobody
namespace Go.Proofs.YtdocmpnofklaoaaDoor
/-- The card, under a short name, for the claim. -/
theorem traceNobody_card : Rows.TraceNobodyCardSaid := traceNobody.card
end Go.Proofs.YtdocmpnofklaoaaDoor

/- What came in is opened; a law that answers true. -/
import Derived.Test.YtdocmpnofklaoaaGreatDoorEv25
import Derived.ChangeArms
namespace Go.Proofs.YtdocmpnofklaoaaGreatDoor.Ev
open Go
set_option linter.unusedSimpArgs false

def Fr.lay (s : Fr) (t : Nat) (v : Value) : Fr := ⟨s.tm.put t v, s.nt, s.df⟩
theorem Fr.get_lay (s : Fr) (t : Nat) (v : Value) (t' : Nat) : (s.lay t v).get t' = if t' = t then v else s.get t' := by
  simp only [Fr.get, Fr.lay, T.get_put]
  by_cases e : t' = t <;> simp [e]

section
variable {P : Program} {w0 : World} {pin : Nat} {s : Fr} {h : H} {Q : AEx → Fr → H → Prop}

/-- A row of memory that was there at first. -/
structure Row0 (w0 : World) (b o m N : Nat) (cs : T Value) : Prop where
  ex : ∃ arr e fr, w0.heap[b]? = some (.cells arr e fr) ∧ o + m ≤ arr.size ∧ o + N ≤ arr.size ∧ ∀ j v, j < m → cs.get j = some v → ∃ v', arr[o + j]? = some v' ∧ ∀ ρ, VR ρ v v'

/-- A slice that came in is opened. -/
theorem Wp.revealX {c : Code} {t b o n cp z : Nat} {X : AObj} (hs : s.get t = rawV (.slice (some ⟨b, o, none⟩) n cp)) (hnc : n ≤ cp) (hlt0 : b < w0.heap.size) (hX : X.mut = false)
    (hrow : ∃ N, o + cp * z ≤ N ∧ ∀ ρ, OR ρ ⟨b, o, N⟩ X w0.heap[b]?)
    (x : Wp P w0 pin c (s.lay t (.slice (some ⟨h.next, 0, some (2 * z + 1)⟩) n cp)) (h.new X) Q) : Wp P w0 pin c s h Q := by
  intro ρ a w hat hd hp hb
  obtain ⟨N, h3, h4⟩ := hrow
  have hwb : w.heap[b]? = w0.heap[b]? := hb.same b hlt0
  have hltw : b < w.heap.size := Nat.lt_of_lt_of_le hlt0 hb.size
  have hv : a.tmps.getD t undef = .slice (some ⟨b, o, none⟩) n cp := by
    have := (hat.tm.get t).known (by rw [hs]; rfl)
    rw [hs] at this
    exact this.raw_eq.1
  have hn : ρ h.next = none := hd _ (Nat.le_refl _)
  let ρ2 := Upd ρ h.next ⟨b, o, N⟩
  have hsub : Sub ρ ρ2 := Upd.sub _ hn
  have hold : ∀ y i, ρ2 y = some i → y ≠ h.next → ρ y = some i := fun y i h1 h2 => by simpa [ρ2, Upd, h2] using h1
  have hnew : ∀ i, ρ2 h.next = some i → i = ⟨b, o, N⟩ := fun i h1 => by simp only [ρ2, Upd.same] at h1; simpa using h1.symm
  have hat2 : At ρ2 (s.lay t (.slice (some ⟨h.next, 0, some (2 * z + 1)⟩) n cp)) (h.new X) a w := by
    refine ⟨⟨hat.tm.size, fun t' => ?_⟩, ⟨fun y i ob hy hob => ?_, fun y y' i i' ob ob' hy hy' hob hob' hl hl' hbb => ?_, fun y i hy => ?_⟩, (AExt.new h _).wf hat.wf, hat.df.mono hsub⟩
    · rw [Fr.get_lay]
      by_cases et : t' = t
      · subst et
        rw [if_pos rfl, hv]
        refine .inr (.slice (i := ⟨b, o, N⟩) (sp := 2 * z + 1) (Upd.same _ _ _) rfl hnc (Nat.le_refl _) (fun _ => rfl) (fun _ => rfl) ?_)
        show o + cp * ((2 * z + 1) / 2) ≤ N
        rw [show (2 * z + 1) / 2 = z by omega]; exact h3
      · rw [if_neg et]; exact (hat.tm.get t').mono hsub
    · rw [H.obj_new] at hob
      by_cases ey : y = h.next
      · subst ey
        rw [if_pos rfl] at hob; simp at hob; subst hob
        obtain rfl := hnew i hy
        rw [hwb]; exact h4 _
      · rw [if_neg ey] at hob
        exact (hat.hp.obj y i ob (hold y i hy ey) hob).mono hsub
    · rw [H.obj_new] at hob hob'
      by_cases ey : y = h.next
      · rw [if_pos ey] at hob; simp at hob; subst hob
        rw [hX] at hl; cases hl
      · rw [if_neg ey] at hob
        by_cases ey' : y' = h.next
        · subst ey'
          obtain rfl := hnew i' hy'
          exact absurd hbb (hb.free b hlt0 y i ob (hold y i hy ey) hob hl)
        · rw [if_neg ey'] at hob'
          exact hat.hp.inj y y' i i' ob ob' (hold y i hy ey) (hold y' i' hy' ey') hob hob' hl hl' hbb
    · by_cases ey : y = h.next
      · subst ey; obtain rfl := hnew i hy; exact hltw
      · exact hat.hp.lt y i (hold y i hy ey)
  have hd2 : Dom ρ2 (h.new X) := fun y hy => by
    have hy' : h.next + 1 ≤ y := hy
    simp only [ρ2, Upd, if_neg (show y ≠ h.next by omega)]; exact hd y (by omega)
  have hfm : ∀ k, FreeM ρ h.obj k → FreeM ρ2 (h.new X).obj k := fun k hf y i ob hy hob hl => by
    rw [H.obj_new] at hob
    by_cases ey : y = h.next
    · rw [if_pos ey] at hob; simp at hob; subst hob
      rw [hX] at hl; cases hl
    · rw [if_neg ey] at hob; exact hf y i ob (hold y i hy ey) hob hl
  refine wpIn_mono (x ρ2 a w hat2 hd2 (Nat.le_succ_of_le hp) ⟨hb.size, hb.same, fun k hk => hfm k (hb.free k hk)⟩) ?_
  rintro ex a' w' ⟨ρ', x', s', h', q1, q2, q3, q4, q5, q6⟩
  refine ⟨ρ', x', s', h', q1, q2, q3, q4, q5, fun y hy => ?_, fun k hk0 hk hf => q6.keep k hk0 hk (fun y i ob hy hob hl => ?_), fun k hk hf => q6.keepM k hk (hfm k hf), q6.size, q6.env, q6.marks⟩
  · rw [q6.pins y hy]; simp only [ρ2, Upd, if_neg (show y ≠ h.next by omega)]
  · rw [H.obj_new] at hob
    by_cases ey : y = h.next
    · subst ey; obtain rfl := hnew i hy; show b ≠ k; omega
    · rw [if_neg ey] at hob; exact hf y i ob (hold y i hy ey) hob hl

/-- A slice that came in is opened: its cells. -/
theorem Wp.reveal {c : Code} {t b o n cp z m : Nat} {cs : T Value} (hs : s.get t = rawV (.slice (some ⟨b, o, none⟩) n cp)) (hnc : n ≤ cp) (hrow : Row0 w0 b o m (cp * z) cs)
    (x : Wp P w0 pin c (s.lay t (.slice (some ⟨h.next, 0, some (2 * z + 1)⟩) n cp)) (h.new (.row m cs roT)) Q) : Wp P w0 pin c s h Q := by
  obtain ⟨arr, e, fr, h1, h2, h3, h4⟩ := hrow.ex
  have hlt0 : b < w0.heap.size := by
    rcases Nat.lt_or_ge b w0.heap.size with q | q
    · exact q
    · rw [Array.getElem?_eq_none q] at h1; cases h1
  refine Wp.revealX (X := .row m cs roT) hs hnc hlt0 (by simp [AObj.mut, AObj.ro, Nat.beq_refl]) ⟨arr.size, h3, fun ρ => ?_⟩ x
  refine ⟨arr, e, fr, h1, rfl, h2, .inl rfl, fun j v hj hv => ?_⟩
  obtain ⟨v', q1, q2⟩ := h4 j v hj hv
  exact ⟨v', q1, q2 _⟩
/-- A slice that came in and has no cells. -/
theorem Wp.reveal0 {c : Code} {t b o z : Nat} (hs : s.get t = rawV (.slice (some ⟨b, o, none⟩) 0 0)) (hlt0 : b < w0.heap.size)
    (x : Wp P w0 pin c (s.lay t (.slice (some ⟨h.next, 0, some (2 * z + 1)⟩) 0 0)) (h.new .dead) Q) : Wp P w0 pin c s h Q :=
  Wp.revealX (X := .dead) hs (Nat.le_refl _) hlt0 rfl ⟨o, by omega, fun _ => trivial⟩ x

end

theorem leaves_marksK {P : Program} {fn : Func} {tm : Array Value} {w : World} {ρ1 : Rho} {h1 : H} {R : Ending → World → Prop} {K : World → Prop} (hK : ∀ w1 r o, w.heap.size ≤ r → K w1 → K (w1.putObj r o))
    (hres : ∀ w2, HR ρ1 h1.obj w2 → K w2 → ∃ v', (results fn tm).run P w2 = .ok v' w2 ∧ R (.returned v') w2) :
    ∀ (df : List (Option (FuncId × List Value))) {ds : List Deferred} {w1 : World}, DR ρ1 df ds → (∀ d ∈ df, d = none) → HR ρ1 h1.obj w1 → K w1 → Marks ρ1 h1 w1 w.heap.size (marksOf ds) →
      LeavesInM FW 0 P fn tm R ds .returning w1
  | [], ds, w1, hdr, _, hp, hk, _ => by
    cases hdr
    obtain ⟨v', q1, q2⟩ := hres w1 hp hk
    exact ⟨v', q1, q2⟩
  | d :: df, ds, w1, hdr, hn, hp, hk, hm => by
    cases hdr with
    | cons hd1 t =>
      cases hd1 with
      | mark r =>
        have hmk : ∀ l, marksOf (mark r :: l) = r :: marksOf l := fun l => rfl
        rw [hmk] at hm
        have hnd := List.nodup_cons.1 hm.nodup
        refine ⟨by simp, .inl ⟨r, _, rfl, run_takeDeferred (hm.at_ r (by simp)), ?_⟩⟩
        refine leaves_marksK hK hres df t (fun d hd => hn d (List.mem_cons_of_mem _ hd)) (hp.putObj (hm.free r (by simp))) (hK _ _ _ (hm.lo r (by simp)) hk) ?_
        exact Marks.putObj ⟨hnd.2, fun k hk => hm.lo k (by simp [hk]), fun k hk => hm.hi k (by simp [hk]), fun k hk => hm.at_ k (by simp [hk]), fun k hk => hm.free k (by simp [hk])⟩ hnd.1
      | call hargs => have := hn _ List.mem_cons_self; cases this

theorem WFH.empty : WFH H.empty := ⟨fun _ _ h => by simp [H.empty, T.get] at h, fun _ _ h => by simp [H.empty, T.get] at h⟩

/-- A law that answers true, whatever came in: what was there stays as it was. -/
theorem law_true {P : Program} {W : World} {f : FuncId} {fn : Func} {body : Code} {args : List Value} {args' : Array Value} (hf : P.funcs[f]? = some fn) (hb : fn.body = some body) (hle : args.length ≤ fn.ntmps)
    (hargs : VRs (fun _ => none) args args'.toList) (hw : Wp P W 0 body ⟨T.ofListFrom .nil 0 args, fn.ntmps, []⟩ H.empty fun ex s1 h1 => (∀ id, ex ≠ .exit id) ∧ (∀ d ∈ s1.df, d = none) ∧
      resultsA P s1 h1.obj fn.results.toList = some [.bool true]) : Calls P f args' W fun e w' => e = .returned (.bool true) ∧ Go.RowKit.Below W.heap.size W w' := by
  have hg0 : HR (fun _ => none) H.empty.obj W := ⟨fun _ _ _ h => (by cases h), fun _ _ _ _ _ _ h => (by cases h), fun _ _ h => (by cases h)⟩
  refine callsIn_wide.1 (callsIn_of_wp_marks hf hb trivial (wpIn_mono (hw (fun _ => none) _ W ⟨frame_enter hargs hle, hg0, WFH.empty, .nil⟩ (fun _ _ => rfl) (Nat.zero_le _)
    ⟨Nat.le_refl _, fun _ _ => rfl, fun _ _ _ _ _ h => (by cases h)⟩) ?_))
  rintro e a' w' ⟨ρ1, x, s1, h1, rfl, ⟨hex, hdf, hres⟩, hat, hd1, _, hx⟩
  obtain ⟨ds, hds, hm⟩ := hx.marks
  simp only [List.append_nil] at hds
  rw [← hds] at hm
  have hpost : LeavesInM FW 0 P fn a'.tmps (fun e w' => e = .returned (.bool true) ∧ Go.RowKit.Below W.heap.size W w') a'.defers .returning w' := by
    refine leaves_marksK (w := W) (K := fun w2 => (∀ b, b < W.heap.size → w2.heap[b]? = W.heap[b]?) ∧ W.heap.size ≤ w2.heap.size ∧ Env W w2) (fun w1 r o hr hk => ⟨fun b hb => ?_, ?_, hk.2.2⟩) (fun w2 hp2 hk2 => ?_) _ hat.df hdf hat.hp
      ⟨fun b hb => (hx.keepM b hb (fun _ _ _ h => (by cases h))).1, hx.size, hx.env⟩ hm
    · rw [World.putObj_heap_other (by omega)]; exact hk.1 b hb
    · rw [World.putObj_size]; exact hk.2.1
    · obtain ⟨v2, k1, k2⟩ := results_ok (a := a') (P := P) hat.tm hp2 hres
      obtain ⟨e1, e2⟩ := hk2.2.2
      simp only [Prod.mk.injEq] at e2
      exact ⟨v2, k2, by rw [VR.bool k1], e1, e2.2, e2.1, hk2.2.1, hk2.1⟩
  cases x with
  | normal => exact hpost
  | ret => exact hpost
  | exit id => exact absurd rfl (hex id)

/-! ### Runs by their parts -/

def GRes.isOk : GRes → Bool
  | .ok _ => true
  | .error _ => false
def GRes.ex : GRes → AEx
  | .ok (e, _, _, _) => e
  | .error _ => .normal
def GRes.fr : GRes → Fr
  | .ok (_, s, _, _) => s
  | .error _ => ⟨.nil, 0, []⟩
def GRes.hp : GRes → H
  | .ok (_, _, h, _) => h
  | .error _ => H.empty
def GRes.o : GRes → O
  | .ok (_, _, _, o) => o
  | .error _ => ⟨[], 0, False⟩

theorem Wp.run {P : Program} {w0 : World} {pin : Nat} {s : Fr} {h : H} {Q : AEx → Fr → H → Prop} (hm : P.follows .mixedOrders = true) {kt : KT} (hkt : KTOk P kt) {n : Nat} {orc : List (Nat × Orc)} {c : Code} {r : GRes} (hr : evalG P kt n c s h ⟨orc, 0, True⟩ = r)
    (hok : GRes.isOk r = true) (hob : (GRes.o r).ob) (hq : Q (GRes.ex r) (GRes.fr r) (GRes.hp r)) : Wp P w0 pin c s h Q := by
  cases r with
  | error e => cases hok
  | ok x =>
    obtain ⟨ex, s', h', o⟩ := x
    exact Wp.eval hm hkt hr hob hq

def Code.fst : Code → Code
  | .seq a _ => a
  | .block _ c => c
  | .loop c => c
  | c => c
def Code.snd : Code → Code
  | .seq _ b => b
  | c => c

/-- A frame of which some slots are known. -/
def slotOf : List (Nat × Value) → Nat → Value
  | [], _ => anyV
  | (k, v) :: l, t => bif Nat.beq k t then v else slotOf l t
def frOf (nt : Nat) (l : List (Nat × Value)) : Fr := layFr ((List.range nt).map (slotOf l)) []
theorem frOf_get (nt : Nat) (l : List (Nat × Value)) (t : Nat) : (frOf nt l).get t = if t < nt then slotOf l t else undef := by
  rw [frOf, layFr_get, List.getD_eq_getElem?_getD, List.getElem?_map]
  by_cases h : t < nt
  · rw [List.getElem?_range h, if_pos h]; rfl
  · rw [List.getElem?_eq_none (by simpa using Nat.le_of_not_lt h), if_neg h]; rfl
theorem frOf_nt (nt : Nat) (l : List (Nat × Value)) : (frOf nt l).nt = nt := by simp [frOf, layFr]
theorem slotOf_cases : ∀ (l : List (Nat × Value)) (t : Nat), slotOf l t = anyV ∨ ∃ v, (t, v) ∈ l ∧ slotOf l t = v
  | [], _ => .inl rfl
  | (k, v) :: l, t => by
    simp only [slotOf]
    cases hb : Nat.beq k t with
    | true => right; have := Nat.eq_of_beq_eq_true hb; subst this; exact ⟨v, List.mem_cons_self, rfl⟩
    | false =>
      rcases slotOf_cases l t with h | ⟨v', h1, h2⟩
      · exact .inl h
      · exact .inr ⟨v', List.mem_cons_of_mem _ h1, h2⟩

/-- A state told anew by a list of its slots and of its objects, the numbers staying. -/
theorem Cov.same {pin : Nat} {s : Fr} {h h2 : H} {l : List (Nat × Value)} {nt : Nat} (hpin : pin ≤ h2.next) (hnt : s.nt = nt) (hdf : s.df = []) (hwf : WFH h2)
    (hfr : ∀ p ∈ l, s.get p.1 = p.2 ∧ RV id h2.next p.2 p.2) (hob : ∀ a o, h2.obj a = some o → o.live = true → a < h2.next → ∃ o1, h.obj a = some o1 ∧ o1.live = true ∧ RO id h2.next o o1) : Cov pin s h (frOf nt l) h2 := by
  refine Cov.mk id (fun _ _ => rfl) hpin (by rw [frOf_nt, hnt]) (by rw [hdf]; rfl) (fun d hd => by rw [hdf] at hd; cases hd) (fun t ht => ?_) (fun t ht => ?_) hwf hob (fun _ _ _ _ _ _ _ _ h => h)
  · rw [frOf_nt] at ht
    rw [frOf_get, if_pos ht]
    rcases slotOf_cases l t with h1 | ⟨v, h1, h3⟩
    · exact .inl h1
    · obtain ⟨q1, q2⟩ := hfr _ h1
      rw [h3, q1]; exact .inr q2
  · rw [frOf_nt] at ht
    rw [frOf_get, if_neg (by omega)]

/-- The values of slots, and objects. -/
def GRes.slots (r : GRes) (ts : List Nat) : List Value := ts.map (GRes.fr r).get
def GRes.objs (r : GRes) (as : List Nat) : List (Option AObj) := as.map (GRes.hp r).obj

/-- All that is asked of a run, at one look. -/
def GRes.view (r : GRes) (ts as : List Nat) : Bool × AEx × Nat × List (Option (FuncId × List Value)) × List Value × List (Option AObj) × Prop :=
  (GRes.isOk r, GRes.ex r, (GRes.fr r).nt, (GRes.fr r).df, GRes.slots r ts, GRes.objs r as, (GRes.o r).ob)

structure Looks (r : GRes) (ex : AEx) (nt : Nat) (ts : List Nat) (vs : List Value) (as : List Nat) (os : List (Option AObj)) (ob : Prop) : Prop where
  ok : GRes.isOk r = true
  ex : GRes.ex r = ex
  nt : (GRes.fr r).nt = nt
  df : (GRes.fr r).df = []
  slots : GRes.slots r ts = vs
  objs : GRes.objs r as = os
  ob : (GRes.o r).ob = ob

theorem Looks.of {r : GRes} {ex : AEx} {nt : Nat} {ts : List Nat} {vs : List Value} {as : List Nat} {os : List (Option AObj)} {ob : Prop} (h : GRes.view r ts as = (true, ex, nt, [], vs, os, ob)) : Looks r ex nt ts vs as os ob := by
  simp only [GRes.view, Prod.mk.injEq] at h
  exact ⟨h.1, h.2.1, h.2.2.1, h.2.2.2.1, h.2.2.2.2.1, h.2.2.2.2.2.1, h.2.2.2.2.2.2⟩

theorem slots_mem : ∀ {ts : List Nat} {vs : List Value} {f : Nat → Value}, ts.map f = vs → ∀ p ∈ ts.zip vs, f p.1 = p.2
  | [], _, _, _, p, hp => by simp at hp
  | t :: ts, [], _, h, _, _ => by simp at h
  | t :: ts, v :: vs, f, h, p, hp => by
    simp only [List.map_cons, List.cons.injEq] at h
    simp only [List.zip_cons_cons, List.mem_cons] at hp
    rcases hp with rfl | hp
    · exact h.1
    · exact slots_mem h.2 p hp

theorem wrap_i64 {x : Int} (h0 : 0 ≤ x) (h : x < 9223372036854775808) : IntKind.i64.wrap x = x := by
  have e : x % 18446744073709551616 = x := Int.emod_eq_of_lt h0 (by omega)
  show (if (true && decide (x % 18446744073709551616 ≥ 9223372036854775808)) = true then x % 18446744073709551616 - 18446744073709551616 else x % 18446744073709551616) = x
  rw [e, if_neg (by simp; omega)]

/-! ### What a slice holds that came in -/

theorem slice_open {H : Type} {enc : TypeId × Value → H} {P : Program} {W : World} {t e : TypeId} {z : Nat} {v : Value} {d : DataW H} {p : List MemPlace} (ht : P.underlying t = some (.slice e)) (hsz : P.cellsOf e = z)
    (hd : DataW.Trod enc P W 0 (fun _ => true) true t v d p) {b0 : Nat} (hok : Value.okWide P W .any b0 t v) :
    v = .slice none 0 0 ∨ ∃ b o n cp arr e' fr, v = .slice (some ⟨b, o, none⟩) n cp ∧ n ≤ cp ∧ cp ≤ maxLen ∧ W.heap[b]? = some (.cells arr e' fr) ∧
      ∀ i, i < cp → ∃ fuel cs x, cs.length = z ∧ (∀ j, j < z → arr[o + i * z + j]? = cs[j]?) ∧ DataW.trod enc P W 0 (fun _ => true) true fuel e cs = some x := by
  obtain ⟨fuel, hd⟩ := hd
  rcases DataW.trod_slice ht hd with ⟨h0, _⟩ | ⟨a, len, cap, elems, rest, n, rfl, hcs, hx, _, hl, hm, hlen, hel, hsp, _⟩
  · left
    cases v <;> simp [Value.cells] at h0 <;> first | exact h0 | (obtain ⟨rfl, rfl, rfl⟩ := h0; rfl) | skip
    all_goals (rename_i xs; simp only [Value.okWide, ht, Cell.okWide, Cell.ok] at hok)
  · right
    have hv : v = .slice (some a) len cap := by
      cases v <;> simp [Value.cells] at hcs <;> first | (obtain ⟨rfl, rfl, rfl⟩ := hcs; rfl) | skip
      all_goals (rename_i xs; simp only [Value.okWide, ht, Cell.okWide, Cell.ok] at hok)
    subst hv
    simp only [Value.okWide, ht, Cell.okWide, Cell.ok] at hok
    obtain ⟨_, _, _, hspot, row, cells, hsh, _⟩ := hok
    obtain ⟨b, o, sp⟩ := a
    simp only at hspot hsh; subst hspot
    have hbk : ∃ arr e' fr, W.heap[b]? = some (.cells arr e' fr) := by
      unfold World.shape? at hsh
      split at hsh
      · rename_i c e fr hb; exact ⟨c, e, fr, hb⟩
      · cases hsh
    obtain ⟨arr, e', fr, hb⟩ := hbk
    refine ⟨b, o, len, cap, arr, e', fr, rfl, hl, hm, hb, fun i hi => ?_⟩
    have hE : ∃ y, (W.cells? 0 ((⟨b, o, none⟩ : Addr).add (i * P.cellsOf e)) (P.cellsOf e)).bind (DataW.trod enc P W 0 (fun _ => true) true n e) = some y := by
      by_cases hil : i < len
      · rw [hel i hil]; exact ⟨elems[i], List.getElem?_eq_getElem (by omega)⟩
      · obtain ⟨hrl, hr⟩ := hsp rfl
        have := hr (i - len) (by omega)
        rw [show len + (i - len) = i by omega] at this
        rw [this]; exact ⟨rest[i - len], List.getElem?_eq_getElem (by omega)⟩
    obtain ⟨y, hy⟩ := hE
    simp only [Option.bind_eq_some_iff] at hy
    obtain ⟨cs, hcs1, hcs2⟩ := hy
    obtain ⟨_, q1, q2⟩ := World.cells?_some hcs1
    refine ⟨n, cs, y, by rw [q1, hsz], fun j hj => ?_, hcs2⟩
    have := q2 j (by rw [hsz]; exact hj)
    have ha : ∀ o k : Nat, (⟨b, o, none⟩ : Addr).add k = ⟨b, o + k, none⟩ := by
      intro o k
      unfold Addr.add
      split
      · rename_i e; subst e; rfl
      · rfl
    rw [← this, hsz, ha, ha]
    simp only [World.cell?, hb, Option.isSome_none, Bool.false_eq_true, if_false]

end Go.Proofs.YtdocmpnofklaoaaGreatDoor.Ev

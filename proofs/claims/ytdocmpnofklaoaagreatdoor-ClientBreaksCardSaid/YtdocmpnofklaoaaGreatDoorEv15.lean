/- An open order: what holds between the operations, and that each of them keeps it. -/
import Derived.Test.YtdocmpnofklaoaaGreatDoorEv14
namespace Go.Proofs.YtdocmpnofklaoaaGreatDoor.Ev
open Go
set_option linter.unusedSimpArgs false

/-- The text's run of one statement, and what was found of it. -/
structure Run (P : Program) (ih : Ih) (ops : Array Oper) (S : Nat → Fr) (Hh : Nat → H) (V : Nat → Value) : Prop where
  step : ∀ (i : Nat) (o : Oper), ops[i]? = some o → opV P ih ops o (S i) (Hh i) = .ok (V i, Hh (i + 1)) ∧ (S i).put o.dst (V i) = some (S (i + 1))
  ext : ∀ i, i < ops.size → AExt (Hh i) (Hh (i + 1))
  wf : WFH (Hh 0)
  edge : ∀ (i : Nat) (o : Oper), ops[i]? = some o → ∀ e ∈ (bnd o), e.on < i ∧ Region.binds .any e = true
  pairs : ∀ (i j : Nat) (o p : Oper), ops[i]? = some o → ops[j]? = some p → j < i → ((befs ops).getD i 0).testBit j = true ∨
    (dstIn p.dst (looksA ops o) = false ∧ dstIn o.dst (looksA ops p) = false ∧ sameDst p.dst o.dst = false ∧ ¬ (cls P p.op = 3 ∧ cls P o.op = 3))
  reads : ∀ (r e : Nat) (o p : Oper), ops[r]? = some o → ops[e]? = some p → cls P o.op = 2 → cls P p.op = 3 →
    ((befs ops).getD e 0).testBit r = true ∨ ((befs ops).getD r 0).testBit e = true ∨ ∀ b, rdBlk (S r) o.op = some b → ∃ x, verAt (Hh r) b = some x ∧ verAt (Hh (if r < e then e + 1 else e)) b = some x

section
variable {P : Program} {ih : Ih} {ops : Array Oper} {S : Nat → Fr} {Hh : Nat → H} {V : Nat → Value}

def eff (P : Program) (ops : Array Oper) (S : Nat → Fr) (i : Nat) : Prop := ∃ o, ops[i]? = some o ∧ wantedA ops (S i) o = true ∧ cls P o.op = 3
def flo (P : Program) (ops : Array Oper) (S : Nat → Fr) (i : Nat) : Prop := ∃ o, ops[i]? = some o ∧ wantedA ops (S i) o = true ∧ cls P o.op = 1

theorem Run.exts (R : Run P ih ops S Hh V) : ∀ j, j ≤ ops.size → ∀ i, i ≤ j → AExt (Hh i) (Hh j)
  | 0, _, i, h => by have e : i = 0 := Nat.le_zero.1 h; subst e; exact .refl _
  | j + 1, hj, i, h => by
    by_cases e : i = j + 1
    · subst e; exact .refl _
    · exact (R.exts j (by omega) i (by omega)).trans (R.ext j (by omega))

theorem Run.wfs (R : Run P ih ops S Hh V) {i : Nat} (hi : i ≤ ops.size) : WFH (Hh i) := (R.exts i hi 0 (Nat.zero_le _)).wf R.wf

theorem Run.get? (_R : Run P ih ops S Hh V) {i : Nat} (hi : i < ops.size) : ∃ o, ops[i]? = some o := ⟨ops[i], by simp [hi]⟩

theorem Run.still (R : Run P ih ops S Hh V) {i : Nat} (hi : i < ops.size) (he : ¬ eff P ops S i) (hf : ¬ flo P ops S i) : Hh (i + 1) = Hh i := by
  obtain ⟨o, ho⟩ := R.get? hi
  rcases went (R.step i o ho).1 with ⟨_, _, hh⟩ | ⟨_, _, _, hh⟩ | ⟨ob, hw, hc, _, _⟩ | ⟨_, _, _, hh⟩ | ⟨hw, hc⟩
  · exact hh
  · exact hh
  · exact absurd ⟨o, ho, hw, hc⟩ hf
  · exact hh
  · exact absurd ⟨o, ho, hw, hc⟩ he

theorem Run.laid (R : Run P ih ops S Hh V) {i : Nat} (hf : flo P ops S i) : ∃ o ob, ops[i]? = some o ∧ wantedA ops (S i) o = true ∧ execA P (S i) o.op (Hh i).next = some (V i, ob) ∧ Hh (i + 1) = (Hh i).new ob := by
  obtain ⟨o, ho, hw, hc⟩ := hf
  rcases went (R.step i o ho).1 with ⟨h1, _, _⟩ | ⟨_, h1, _, _⟩ | ⟨ob, _, _, hx, hh⟩ | ⟨_, h1, _, _⟩ | ⟨_, h1⟩
  · rw [hw] at h1; simp at h1
  · omega
  · exact ⟨o, ob, ho, hw, hx, hh⟩
  · omega
  · omega

theorem not_eff_flo {i : Nat} (hf : flo P ops S i) : ¬ eff P ops S i := by
  rintro ⟨o, ho, _, hc⟩
  obtain ⟨o', ho', _, hc'⟩ := hf
  rw [ho] at ho'; simp at ho'; subst ho'; omega

/-- No effect between two moments: what was there is as it was. -/
theorem Run.calm (R : Run P ih ops S Hh V) : ∀ k i, i + k ≤ ops.size → (∀ j, i ≤ j → j < i + k → ¬ eff P ops S j) → ∀ x, x < (Hh i).next → (Hh (i + k)).objs.get x = (Hh i).objs.get x
  | 0, i, _, _, x, _ => rfl
  | k + 1, i, h, he, x, hx => by
    have h1 := R.calm k i (by omega) (fun j a b => he j a (by omega)) x hx
    rw [← h1]
    by_cases hf : flo P ops S (i + k)
    · obtain ⟨o, ob, _, _, _, hh⟩ := R.laid hf
      rw [show i + (k + 1) = (i + k) + 1 by omega, hh]
      have : (Hh i).next ≤ (Hh (i + k)).next := (R.exts (i + k) (by omega) i (by omega)).next
      simp [H.new, T.get_put, show x ≠ (Hh (i + k)).next by omega]
    · rw [show i + (k + 1) = (i + k) + 1 by omega, R.still (by omega) (he _ (by omega) (by omega)) hf]

theorem Run.calm' (R : Run P ih ops S Hh V) {i j : Nat} (hij : i ≤ j) (hj : j ≤ ops.size) (he : ∀ k, i ≤ k → k < j → ¬ eff P ops S k) {x : Nat} (hx : x < (Hh i).next) : (Hh j).objs.get x = (Hh i).objs.get x := by
  have := R.calm (j - i) i (by omega) (fun k a b => he k a (by omega)) x hx
  rwa [show i + (j - i) = j by omega] at this

/-! ### Temporaries -/

def dstAt (ops : Array Oper) (i : Nat) : Option Tmp := (ops[i]?).bind (·.dst)

open Classical in
noncomputable def VL (ops : Array Oper) (S : Nat → Fr) (V : Nat → Value) (L : Nat → Prop) : Nat → Nat → Value
  | 0, t => (S 0).get t
  | k + 1, t => if L k ∧ dstAt ops k = some t then V k else VL ops S V L k t

theorem Run.get_succ (R : Run P ih ops S Hh V) {k : Nat} (hk : k < ops.size) (t : Nat) : (S (k + 1)).get t = if dstAt ops k = some t then V k else (S k).get t := by
  obtain ⟨o, ho⟩ := R.get? hk
  have hp := (R.step k o ho).2
  simp only [dstAt, ho, Option.bind_some]
  cases hd : o.dst with
  | none => rw [hd] at hp; simp [Fr.put] at hp; rw [← hp]; simp
  | some d =>
    rw [hd] at hp
    rw [Fr.get_put hp]
    by_cases e : t = d
    · subst e; simp
    · simp [e, Ne.symm e]

theorem Run.nts (R : Run P ih ops S Hh V) : ∀ i, i ≤ ops.size → (S i).nt = (S 0).nt
  | 0, _ => rfl
  | i + 1, h => by
    obtain ⟨o, ho⟩ := R.get? (show i < ops.size by omega)
    rw [Fr.put_nt (R.step i o ho).2]; exact R.nts i (by omega)

theorem Run.dfs (R : Run P ih ops S Hh V) : ∀ i, i ≤ ops.size → (S i).df = (S 0).df
  | 0, _ => rfl
  | i + 1, h => by
    obtain ⟨o, ho⟩ := R.get? (show i < ops.size by omega)
    rw [Fr.put_df (R.step i o ho).2]; exact R.dfs i (by omega)

theorem dstIn_mem {d : Tmp} {l : List Nat} (h : d ∈ l) : dstIn (some d) l = true := by
  simp only [dstIn, List.any_eq_true]; exact ⟨d, h, by simp⟩

/-- Where an operation may go next, it finds what it found in the text's run. -/
theorem Run.finds (R : Run P ih ops S Hh V) {L : Nat → Prop} (hL : ∀ (i : Nat) (o : Oper), ops[i]? = some o → L i → ∀ e ∈ (bnd o), L e.on) {i : Nat} {o : Oper} (ho : ops[i]? = some o) (hn : ¬ L i)
    (hr : ∀ e ∈ (bnd o), L e.on) {t : Nat} (ht : t ∈ looksA ops o) : VL ops S V L ops.size t = (S i).get t := by
  have hi : i < ops.size := (Array.getElem?_eq_some_iff.1 ho).1
  have hlt := fun i o h e he => (R.edge i o h e he).1
  have A : ∀ k, k ≤ i → VL ops S V L k t = (S k).get t := by
    intro k
    induction k with
    | zero => intro _; rfl
    | succ k ih =>
      intro hk
      rw [R.get_succ (by omega), VL, ih (by omega)]
      by_cases hd : dstAt ops k = some t
      · have hLk : L k := by
          obtain ⟨p, hp⟩ := R.get? (show k < ops.size by omega)
          have hpd : p.dst = some t := by simpa [dstAt, hp] using hd
          rcases R.pairs i k o p ho hp (by omega) with hb | ⟨h1, _⟩
          · exact befs_closed hlt hL (i + 1) i o (Nat.lt_succ_self _) ho hr k hb
          · rw [hpd, dstIn_mem ht] at h1; simp at h1
        simp [hd, hLk]
      · simp [hd]
  have B : ∀ k, i + k ≤ ops.size → VL ops S V L (i + k) t = VL ops S V L i t := by
    intro k
    induction k with
    | zero => intro _; rfl
    | succ k ih =>
      intro hk
      rw [show i + (k + 1) = (i + k) + 1 by omega, VL, ih (by omega)]
      rw [if_neg]
      rintro ⟨hLk, hd⟩
      obtain ⟨p, hp⟩ := R.get? (show i + k < ops.size by omega)
      have hpd : p.dst = some t := by simpa [dstAt, hp] using hd
      by_cases e : k = 0
      · subst e; exact hn hLk
      · rcases R.pairs (i + k) i p o hp ho (by omega) with hb | ⟨_, h1, _⟩
        · exact hn (befs_closed hlt hL (i + k + 1) (i + k) p (Nat.lt_succ_self _) hp (hL _ p hp hLk) i hb)
        · rw [hpd, dstIn_mem ht] at h1; simp at h1
  have := B (ops.size - i) (by omega)
  rw [show i + (ops.size - i) = ops.size by omega] at this
  rw [this, A i (Nat.le_refl _)]

/-- And what it gives stands. -/
theorem Run.gives (R : Run P ih ops S Hh V) {L : Nat → Prop} (hL : ∀ (i : Nat) (o : Oper), ops[i]? = some o → L i → ∀ e ∈ (bnd o), L e.on) {i : Nat} {o : Oper} (ho : ops[i]? = some o) (hn : ¬ L i) (t : Nat) :
    VL ops S V (fun k => L k ∨ k = i) ops.size t = if o.dst = some t then V i else VL ops S V L ops.size t := by
  have hi : i < ops.size := (Array.getElem?_eq_some_iff.1 ho).1
  have hlt := fun i o h e he => (R.edge i o h e he).1
  have A : ∀ k, k ≤ i → VL ops S V (fun k => L k ∨ k = i) k t = VL ops S V L k t := by
    intro k
    induction k with
    | zero => intro _; rfl
    | succ k ih =>
      intro hk
      have hne : ¬ k = i := by omega
      simp only [VL, ih (show k ≤ i by omega)]
      by_cases hc : L k ∧ dstAt ops k = some t
      · rw [if_pos hc, if_pos ⟨.inl hc.1, hc.2⟩]
      · rw [if_neg hc, if_neg (fun h => hc ⟨h.1.resolve_right hne, h.2⟩)]
  have hdi : dstAt ops i = o.dst := by simp [dstAt, ho]
  have B : ∀ k, i + 1 + k ≤ ops.size → VL ops S V (fun k => L k ∨ k = i) (i + 1 + k) t = if o.dst = some t then V i else VL ops S V L (i + 1 + k) t := by
    intro k
    induction k with
    | zero =>
      intro _
      show VL ops S V (fun k => L k ∨ k = i) (i + 1) t = if o.dst = some t then V i else VL ops S V L (i + 1) t
      rw [VL, VL, A i (Nat.le_refl _), hdi]
      by_cases hd : o.dst = some t <;> simp [hd, hn]
    | succ k ih =>
      intro hk
      rw [show i + 1 + (k + 1) = (i + 1 + k) + 1 by omega, VL, VL, ih (by omega)]
      have hne : ¬ i + 1 + k = i := by omega
      by_cases hd : dstAt ops (i + 1 + k) = some t
      · by_cases hLk : L (i + 1 + k)
        · have hnd : ¬ o.dst = some t := by
            intro hod
            obtain ⟨p, hp⟩ := R.get? (show i + 1 + k < ops.size by omega)
            have hpd : p.dst = some t := by simpa [dstAt, hp] using hd
            rcases R.pairs (i + 1 + k) i p o hp ho (by omega) with hb | ⟨_, _, h1, _⟩
            · exact hn (befs_closed hlt hL (i + 1 + k + 1) (i + 1 + k) p (Nat.lt_succ_self _) hp (hL _ p hp hLk) i hb)
            · rw [hpd, hod] at h1; simp [sameDst] at h1
          simp [hd, hLk, hnd]
        · simp [hd, hLk, hne]
      · simp [hd]
  have := B (ops.size - (i + 1)) (by omega)
  rwa [show i + 1 + (ops.size - (i + 1)) = ops.size by omega] at this

theorem Run.all (R : Run P ih ops S Hh V) {L : Nat → Prop} (h : ∀ i, i < ops.size → L i) (t : Nat) : VL ops S V L ops.size t = (S ops.size).get t := by
  have A : ∀ k, k ≤ ops.size → VL ops S V L k t = (S k).get t := by
    intro k
    induction k with
    | zero => intro _; rfl
    | succ k ih =>
      intro hk
      have hk' := h k (by omega)
      rw [R.get_succ (by omega), VL, ih (by omega)]
      simp only [hk', true_and]
  exact A _ (Nat.le_refl _)

end
end Go.Proofs.YtdocmpnofklaoaaGreatDoor.Ev

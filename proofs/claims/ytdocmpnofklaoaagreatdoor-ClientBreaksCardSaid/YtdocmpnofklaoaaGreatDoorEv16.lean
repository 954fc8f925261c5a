/- An open order: the invariant, and each operation's step. -/
import Derived.Test.YtdocmpnofklaoaaGreatDoorEv15
namespace Go.Proofs.YtdocmpnofklaoaaGreatDoor.Ev
open Go
set_option linter.unusedSimpArgs false

section
variable {P : Program} {ih : Ih} {ops : Array Oper} {S : Nat → Fr} {Hh : Nat → H} {V : Nat → Value} {D : List Deferred}

structure Inv (P : Program) (ops : Array Oper) (S : Nat → Fr) (Hh : Nat → H) (V : Nat → Value) (ρ0 : Rho) (w0 : World) (D : List Deferred) (L : Nat → Prop) (q : Nat) (ρ : Rho) (a : Act) (w : World) : Prop where
  size : a.tmps.size = (S 0).nt
  tm : ∀ t, VRt ρ (VL ops S V L ops.size t) (a.tmps.getD t undef)
  nod : a.defers = D
  qle : q ≤ ops.size
  qeff : q < ops.size → eff P ops S q
  effs : ∀ j, j < ops.size → eff P ops S j → (L j ↔ j < q)
  hp : HR ρ (Hh q).obj w
  dom : ∀ i, i < ops.size → ∀ x, (Hh i).next ≤ x → x < (Hh (i + 1)).next → (ρ x).isSome = true → L i
  early : ∀ i, i < ops.size → flo P ops S i → L i → q ≤ i → ∃ bi ob, ρ (Hh i).next = some bi ∧ (Hh (i + 1)).obj (Hh i).next = some ob ∧ OR ρ bi ob w.heap[bi.b]? ∧ Free ρ (Hh q).obj bi.b
  apart : ∀ i j bi bj, i < ops.size → j < ops.size → flo P ops S i → flo P ops S j → L i → L j → q ≤ i → q ≤ j → ρ (Hh i).next = some bi → ρ (Hh j).next = some bj → bi.b = bj.b → i = j
  late : ∀ i, i < q → flo P ops S i → ¬ L i → (Hh q).objs.get (Hh i).next = (Hh (i + 1)).objs.get (Hh i).next
  down : ∀ (i : Nat) (o : Oper), ops[i]? = some o → L i → ∀ e ∈ (bnd o), L e.on
  sub : Sub ρ0 ρ
  dom0 : ∀ x, ρ0 x = none → (ρ x).isSome = true → (Hh 0).next ≤ x ∧ x < (Hh ops.size).next
  keep : ∀ b, b < w0.heap.size → Free ρ0 (Hh 0).obj b → w.heap[b]? = w0.heap[b]? ∧ Free ρ (Hh q).obj b ∧ ∀ i bi, i < ops.size → flo P ops S i → L i → q ≤ i → ρ (Hh i).next = some bi → bi.b ≠ b
  keepM : ∀ b, b < w0.heap.size → FreeM ρ0 (Hh 0).obj b → w.heap[b]? = w0.heap[b]? ∧ FreeM ρ (Hh q).obj b ∧ ∀ i bi, i < ops.size → flo P ops S i → L i → q ≤ i → ρ (Hh i).next = some bi → bi.b ≠ b
  grow : w0.heap.size ≤ w.heap.size
  absf : ∀ x, x < (Hh 0).next → ρ0 x = none → (Hh q).objs.get x = (Hh 0).objs.get x
  env : Env w0 w
  dr : DR ρ0 (S 0).df D

theorem Run.next_le (R : Run P ih ops S Hh V) {i j : Nat} (h : i ≤ j) (hj : j ≤ ops.size) : (Hh i).next ≤ (Hh j).next := (R.exts j hj i h).next

theorem Run.laid_next (R : Run P ih ops S Hh V) {i : Nat} (hf : flo P ops S i) : (Hh (i + 1)).next = (Hh i).next + 1 := by
  obtain ⟨o, ob, _, _, _, hh⟩ := R.laid hf
  rw [hh]; rfl

theorem Run.laid_obj (R : Run P ih ops S Hh V) {i : Nat} (hf : flo P ops S i) : ∃ ob, (Hh (i + 1)).obj (Hh i).next = some ob := by
  obtain ⟨o, ob, _, _, _, hh⟩ := R.laid hf
  exact ⟨ob, by rw [hh, H.obj_new]; simp⟩

/-- The next effect at or behind k. -/
theorem next_eff : ∀ (n k : Nat), k ≤ n → ∃ q, k ≤ q ∧ q ≤ n ∧ (q < n → eff P ops S q) ∧ ∀ j, k ≤ j → j < q → ¬ eff P ops S j := by
  intro n k hk
  obtain ⟨d, hd⟩ : ∃ d, n = k + d := ⟨n - k, by omega⟩
  induction d generalizing k with
  | zero => exact ⟨k, Nat.le_refl _, by omega, fun h => by omega, fun j h1 h2 => by omega⟩
  | succ d ihd =>
    by_cases he : eff P ops S k
    · exact ⟨k, Nat.le_refl _, hk, fun _ => he, fun j h1 h2 => by omega⟩
    · obtain ⟨q, h1, h2, h3, h4⟩ := ihd (k + 1) (by omega) (by omega)
      refine ⟨q, by omega, h2, h3, fun j a b => ?_⟩
      by_cases e : j = k
      · subst e; exact he
      · exact h4 j (by omega) b

/-- The invariant at the start. -/
theorem Inv.start (R : Run P ih ops S Hh V) {ρ : Rho} {a : Act} {w : World} (hat : At ρ (S 0) (Hh 0) a w) (hdom : ∀ x, (Hh 0).next ≤ x → x < (Hh ops.size).next → ρ x = none) :
    ∃ q, Inv P ops S Hh V ρ w a.defers (fun _ => False) q ρ a w := by
  obtain ⟨q, h1, h2, h3, h4⟩ := next_eff (P := P) (ops := ops) (S := S) ops.size 0 (Nat.zero_le _)
  have hold : ∀ x, x < (Hh 0).next → (Hh q).objs.get x = (Hh 0).objs.get x := fun x hx => R.calm' h1 h2 (fun k _ b => h4 k (Nat.zero_le _) b) hx
  have hcong : ∀ x o, (ρ x).isSome = true → (Hh q).obj x = some o → (Hh 0).obj x = some o := by
    intro x o hx ho
    have hlt : x < (Hh 0).next := by
      have hq := (R.wfs h2).obj_lt ho
      have hn := R.next_le h2 (Nat.le_refl _)
      rcases Nat.lt_or_ge x (Hh 0).next with h | h
      · exact h
      · have := hdom x h (Nat.lt_of_lt_of_le hq hn); rw [this] at hx; simp at hx
    rw [← H.obj_eq (hold x hlt)]; exact ho
  refine ⟨q, ⟨hat.tm.size, fun t => ?_, rfl, h2, h3, fun j _ hj => ⟨False.elim, fun hjq => h4 j (Nat.zero_le _) hjq hj⟩, hat.hp.congr hcong, fun i hi x x1 x2 hx => ?_, fun i _ _ h => h.elim, fun i j bi bj _ _ _ _ h => h.elim, fun i hi hf _ => ?_, fun i o _ h => h.elim, Sub.refl ρ, fun x h5 h6 => ?_, fun b hb hf => ⟨rfl, fun x i o hx ho hl => hf x i o hx (hcong x o (by rw [hx]; rfl) ho) hl, fun i bi _ _ h => h.elim⟩, fun b hb hf => ⟨rfl, fun x i o hx ho hl => hf x i o hx (hcong x o (by rw [hx]; rfl) ho) hl, fun i bi _ _ h => h.elim⟩, Nat.le_refl _, fun x hx _ => hold x hx, Env.refl w, hat.df⟩⟩
  · have : VL ops S V (fun _ => False) ops.size t = (S 0).get t := by
      have A : ∀ k, VL ops S V (fun _ => False) k t = (S 0).get t := by
        intro k; induction k with
        | zero => rfl
        | succ k ih => rw [VL, ih]; simp
      exact A _
    rw [this]; exact hat.tm.get t
  · have := hdom x (Nat.le_trans (R.next_le (Nat.zero_le _) (by omega)) x1) (Nat.lt_of_lt_of_le x2 (R.next_le (by omega) (Nat.le_refl _)))
    rw [this] at hx; simp at hx
  · refine R.calm' (by omega) h2 (fun k _ b => h4 k (Nat.zero_le _) b) ?_
    rw [R.laid_next hf]; exact Nat.lt_succ_self _
  · rw [h5] at h6; simp at h6

/-- At the end all is as behind the text's run. -/
theorem Inv.finish (R : Run P ih ops S Hh V) {ρ0 ρ : Rho} {a : Act} {w0 w : World} {L : Nat → Prop} {q : Nat} (I : Inv P ops S Hh V ρ0 w0 D L q ρ a w) (hall : ∀ i, i < ops.size → L i) :
    At ρ (S ops.size) (Hh ops.size) a w ∧ Ext ρ0 (Hh 0) w0 ρ (Hh ops.size) w ∧ a.defers = D := by
  have hq : q = ops.size := by
    rcases Nat.lt_or_ge q ops.size with h | h
    · have := (I.effs q h (I.qeff h)).1 (hall q h); omega
    · exact Nat.le_antisymm I.qle h
  subst hq
  refine ⟨⟨⟨by rw [I.size, R.nts _ (Nat.le_refl _)], fun t => ?_⟩, I.hp, R.wfs (Nat.le_refl _), by rw [R.dfs _ (Nat.le_refl _), I.nod]; exact I.dr.mono I.sub⟩, ⟨I.sub, I.dom0, fun b hb hf => ⟨(I.keep b hb hf).1, (I.keep b hb hf).2.1⟩, fun b hb hf => ⟨(I.keepM b hb hf).1, (I.keepM b hb hf).2.1⟩, I.grow, R.next_le (Nat.zero_le _) (Nat.le_refl _), (R.exts _ (Nat.le_refl _) 0 (Nat.zero_le _)).clk, I.absf, (R.exts _ (Nat.le_refl _) 0 (Nat.zero_le _)).vers, fun _ => R.wfs (Nat.le_refl _), I.env⟩, I.nod⟩
  have := I.tm t
  rwa [R.all hall] at this

/-- The frame behind an operation. -/
theorem Inv.frame (R : Run P ih ops S Hh V) {ρ0 ρ ρ' : Rho} {a : Act} {w0 w : World} {L : Nat → Prop} {q : Nat} (I : Inv P ops S Hh V ρ0 w0 D L q ρ a w) {i : Nat} {o : Oper} (ho : ops[i]? = some o) (hn : ¬ L i) (hs : Sub ρ ρ') {v' : Value} (hv : VR ρ' (V i) v') :
    (a.put o.dst v').tmps.size = (S 0).nt ∧ (∀ t, VRt ρ' (VL ops S V (fun k => L k ∨ k = i) ops.size t) ((a.put o.dst v').tmps.getD t undef)) ∧ (a.put o.dst v').defers = D := by
  have hp := (R.step i o ho).2
  have hi : i < ops.size := (Array.getElem?_eq_some_iff.1 ho).1
  cases hd : o.dst with
  | none =>
    refine ⟨I.size, fun t => ?_, I.nod⟩
    rw [R.gives I.down ho hn, hd, if_neg (by simp)]
    exact (I.tm t).mono hs
  | some d =>
    rw [hd] at hp
    have hlt : d < a.tmps.size := by
      rw [I.size, ← R.nts i (by omega)]
      simp only [Fr.put] at hp
      rcases cond_or hp with ⟨h1, _⟩ | ⟨_, h1⟩
      · rwa [Nat.blt_eq] at h1
      · cases h1
    refine ⟨by simp [Act.put, I.size], fun t => ?_, I.nod⟩
    rw [R.gives I.down ho hn, hd]
    by_cases e : t = d
    · subst e
      exact .inr (by simpa [Act.put, hlt] using hv)
    · have := (I.tm t).mono hs
      have hne : ¬ (some d = some t) := by simpa using Ne.symm e
      rw [if_neg hne]
      simp only [Act.put]
      simpa [Array.getD_eq_getD_getElem?, Array.getElem?_setIfInBounds, Ne.symm e] using this

/-- What an operation finds in its frame, where it may go next. -/
theorem Inv.found (R : Run P ih ops S Hh V) {ρ0 ρ : Rho} {a : Act} {w0 w : World} {L : Nat → Prop} {q : Nat} (I : Inv P ops S Hh V ρ0 w0 D L q ρ a w) {i : Nat} {o : Oper} (ho : ops[i]? = some o) (hn : ¬ L i)
    (hr : ∀ e ∈ (bnd o), L e.on) {t : Nat} (ht : t ∈ looksA ops o) : VRt ρ ((S i).get t) (a.tmps.getD t undef) := by
  rw [← R.finds I.down ho hn hr ht]; exact I.tm t

/-! ### What an operation comes to hangs on what it looks at -/

section
variable {s s' : Fr} {h : H} {g : Nat → Option AObj} {nid : Nat}

theorem evs_congr : ∀ {l : List Operand}, (∀ x ∈ l, ev s' x = ev s x) → evs s' l = evs s l
  | [], _ => rfl
  | x :: l, hh => by simp only [evs]; rw [hh x List.mem_cons_self, evs_congr (fun y hy => hh y (List.mem_cons_of_mem _ hy))]

theorem boundO_congr {o : Option Operand} {d : Nat} (hh : ∀ x, o = some x → ev s' x = ev s x) : boundO s' o d = boundO s o d := by
  cases o with
  | none => rfl
  | some x => simp only [boundO]; rw [hh x rfl]

theorem execP_congr {op : Op} (hh : ∀ x ∈ op.operands.toList, ev s' x = ev s x) : execP P s' op = execP P s op := by
  cases op with
  | move x => exact hh x (by simp [Op.operands])
  | assign x => exact hh x (by simp [Op.operands])
  | pick c x y => simp only [execP]; rw [hh c (by simp [Op.operands]), hh x (by simp [Op.operands]), hh y (by simp [Op.operands])]
  | build t ps => simp only [execP]; rw [evs_congr (fun x hx => hh x (by simpa [Op.operands] using hx))]
  | nilCheck x => simp only [execP]; rw [hh x (by simp [Op.operands])]
  | binOp op t x y u => simp only [execP]; rw [hh x (by simp [Op.operands]), hh y (by simp [Op.operands])]
  | unOp op t x => simp only [execP]; rw [hh x (by simp [Op.operands])]
  | makeInterface t x => simp only [execP]; rw [hh x (by simp [Op.operands])]
  | makeFunc fn f c =>
    cases fn with
    | func g => simp only [execP]; rw [evs_congr (fun x hx => hh x (by simp [Op.operands]; exact .inl (by simpa using hx))), evs_congr (fun x hx => hh x (by simp [Op.operands]; exact .inr (by simpa using hx)))]
    | _ => rfl
  | call c =>
    have ha : evs s' c.args.toList = evs s c.args.toList := evs_congr (fun x hx => hh x (by simp only [Op.operands, Call.operands, Array.toList_append, List.mem_append]; exact .inr hx))
    simp only [execP, execP2, ha]
  | typeAssert x u v ok => simp only [execP, execP2]; rw [hh x (by simp [Op.operands])]
  | slice t x lo hi mx =>
    simp only [execP]; rw [hh x (by simp [Op.operands])]
    cases ev s x with
    | none => rfl
    | some v =>
      have h1 : ∀ d, boundO s' lo d = boundO s lo d := fun d => boundO_congr (fun y hy => hh y (by subst hy; simp [Op.operands]))
      have h2 : ∀ d, boundO s' hi d = boundO s hi d := fun d => boundO_congr (fun y hy => hh y (by subst hy; simp [Op.operands]))
      have h3 : ∀ d, boundO s' mx d = boundO s mx d := fun d => boundO_congr (fun y hy => hh y (by subst hy; simp [Op.operands]))
      simp only [sliceO, h1, h2, h3]
  | fieldAddr t x f => simp only [execP]; rw [hh x (by simp [Op.operands])]
  | field t x f => simp only [execP]; rw [hh x (by simp [Op.operands])]
  | indexAddr t x i => simp only [execP]; rw [hh x (by simp [Op.operands]), hh i (by simp [Op.operands])]
  | index t x i => simp only [execP]; rw [hh x (by simp [Op.operands]), hh i (by simp [Op.operands])]
  | extract x i => simp only [execP]; rw [hh x (by simp [Op.operands])]
  | _ => rfl

theorem execA_congr {op : Op} (hh : ∀ x ∈ op.operands.toList, ev s' x = ev s x) : execA P s' op nid = execA P s op nid := by
  cases op with
  | box e x => simp only [execA]; rw [hh x (by simp [Op.operands])]
  | buildSlice t l ps => simp only [execA]; rw [evs_congr (fun x hx => hh x (by simpa [Op.operands] using hx))]
  | makeMap t r =>
    cases r with
    | none => rfl
    | some r => simp only [execA]; rw [hh r (by simp [Op.operands])]
  | makeSlice t l c => simp only [execA]; rw [hh l (by simp [Op.operands]), hh c (by simp [Op.operands])]
  | convert t u x => simp only [execA]; rw [hh x (by simp [Op.operands])]
  | _ => rfl

theorem execR_congr' {op : Op} (hh : ∀ x ∈ op.operands.toList, ev s' x = ev s x) : execR P s' g op = execR P s g op := by
  cases op with
  | load t x => simp only [execR]; rw [hh x (by simp [Op.operands])]
  | lookup t x k ok => simp only [execR]; rw [hh x (by simp [Op.operands]), hh k (by simp [Op.operands])]
  | convert t u x => simp only [execR]; rw [hh x (by simp [Op.operands])]
  | call c =>
    simp only [execR]
    split
    · split
      · rename_i t x hty hax
        rw [hh x (by
          have : x ∈ c.args.toList := by
            have := Array.getElem?_eq_some_iff.1 (show c.args[0]? = some x from hax)
            obtain ⟨hlt, he⟩ := this
            rw [← he]; simp
          simp only [Op.operands, Call.operands, Array.toList_append, List.mem_append]
          exact .inr this)]
      · rfl
    · rfl
  | _ => rfl

theorem execE_congr {op : Op} (hh : ∀ x ∈ op.operands.toList, ev s' x = ev s x) : execE P s' h op = execE P s h op := by
  cases op with
  | store t x y => simp only [execE]; rw [hh x (by simp [Op.operands]), hh y (by simp [Op.operands])]
  | mapUpdate t x k y => simp only [execE, mapUpd]; rw [hh x (by simp [Op.operands]), hh k (by simp [Op.operands]), hh y (by simp [Op.operands])]
  | insert t x k y => simp only [execE, mapUpd]; rw [hh x (by simp [Op.operands]), hh k (by simp [Op.operands]), hh y (by simp [Op.operands])]
  | call c =>
    have ha : evs s' c.args.toList = evs s c.args.toList := evs_congr (fun x hx => hh x (by simp only [Op.operands, Call.operands, Array.toList_append, List.mem_append]; exact .inr hx))
    cases hc : c.callee with
    | value f => simp only [execE, hc]; rw [ha, hh f (by simp [Op.operands, Call.operands, hc])]
    | invoke r m => simp only [execE, hc, execE2]
    | builtin b => cases b <;> simp only [execE, hc, ha, execE2]
  | range t x => simp only [execE, execE2]; rw [hh x (by simp [Op.operands])]
  | next x str => simp only [execE, execE2]; rw [hh x (by simp [Op.operands])]
  | _ => rfl

theorem rdBlk_congr {op : Op} (hh : ∀ x ∈ op.operands.toList, ev s' x = ev s x) : rdBlk s' op = rdBlk s op := by
  cases op with
  | load t x => simp only [rdBlk]; rw [hh x (by simp [Op.operands])]
  | lookup t x k ok => simp only [rdBlk]; rw [hh x (by simp [Op.operands])]
  | convert t u x => simp only [rdBlk]; rw [hh x (by simp [Op.operands])]
  | call c =>
    simp only [rdBlk]
    split
    · rename_i x hax
      rw [hh x (by
        have : x ∈ c.args.toList := by
          have := Array.getElem?_eq_some_iff.1 (show c.args[0]? = some x from hax)
          obtain ⟨hlt, he⟩ := this
          rw [← he]; simp
        simp only [Op.operands, Call.operands, Array.toList_append, List.mem_append]
        exact .inr this)]
    · rfl
  | _ => rfl

theorem opV_congr {all : Array Oper} {o : Oper} (hh : ∀ t ∈ looksA all o, s'.get t = s.get t) : opV P ih all o s' h = opV P ih all o s h ∧ wantedA all s' o = wantedA all s o ∧ (∀ x ∈ o.op.operands.toList, ev s' x = ev s x) := by
  have hx : ∀ x ∈ o.op.operands.toList, ev s' x = ev s x := by
    intro x hxm
    cases x with
    | tmp t => simp only [ev]; rw [hh t (by simp only [looksA, List.mem_append, List.mem_filterMap]; exact .inl ⟨_, hxm, rfl⟩)]
    | _ => rfl
  have hw : wantedA all s' o = wantedA all s o := by
    unfold wantedA
    cases hg : o.guard with
    | none => rfl
    | some p =>
      obtain ⟨j, want⟩ := p
      dsimp only
      cases hd : (all[j]?).bind (·.dst) with
      | none => rfl
      | some d => dsimp only; rw [hh d (by simp only [looksA, hg, hd]; simp)]
  refine ⟨?_, hw, hx⟩
  have he : exec P s' h o.op = exec P s h o.op := by
    unfold exec
    rw [execP_congr hx, execA_congr hx, execR_congr' hx, execE_congr hx]
  have hgk : guardOk all s' o = guardOk all s o := by
    unfold guardOk
    cases hg : o.guard with
    | none => rfl
    | some p =>
      obtain ⟨j, want⟩ := p
      dsimp only
      cases hd : (all[j]?).bind (·.dst) with
      | none => rfl
      | some d => dsimp only; rw [hh d (by simp only [looksA, hg, hd]; simp)]
  unfold opV
  rw [hw, he, hgk]

/-- A frame that holds what it is told to hold. -/
def likeFr (f : Nat → Value) (n : Nat) (df : List (Option (FuncId × List Value))) : Fr := ⟨.fn fun t => some (f t), n, df⟩
theorem likeFr_get {f : Nat → Value} {n : Nat} {df : List (Option (FuncId × List Value))} (t : Nat) : (likeFr f n df).get t = f t := rfl

end
end
end Go.Proofs.YtdocmpnofklaoaaGreatDoor.Ev

/- The pure operations, each. -/
import Derived.Test.YtdocmpnofklaoaaGreatDoorEv4
import Derived.Laws.StructEq
namespace Go.Proofs.YtdocmpnofklaoaaGreatDoor.Ev
open Go
set_option linter.unusedSimpArgs false

section
variable {P : Program} {ρ : Rho} {s : Fr} {a : Act}

theorem guardI (op : BinOp) (t : TypeId) (x y : Operand) (k k' : IntKind) (m n : Int) (w : World) : (eqGuard op t x y (.int k m) (.int k' n)).run P w = .ok () w := by
  unfold eqGuard; cases op <;> simp
theorem guardS (op : BinOp) (t : TypeId) (x y : Operand) (m n : ByteArray) (w : World) : (eqGuard op t x y (.string m) (.string n)).run P w = .ok () w := by
  unfold eqGuard; cases op <;> simp

theorem guardNil {t : TypeId} {ms : Array (String × TypeId)} (hms : P.underlying t = some (.interface ms)) (he : ms.isEmpty = true) (d : Nat) (w : World) :
    (Op.eqGuardIn (d + 1) t .nilIface .nilIface).run P w = .ok false w := by
  simp [Op.eqGuardIn, run_under hms, he]

theorem guardE {op : BinOp} {t : TypeId} {x y : Operand} {u v u' v' : Value} {b : Bool} (h : eqV P t u v = some b) (hu : VR ρ u u') (hv : VR ρ v v') (w : World) :
    (eqGuard op t x y u' v').run P w = .ok () w := by
  unfold eqV at h
  split at h <;> first
    | (simp at h; done)
    | (cases hu <;> cases hv <;> first | (simp [okAtom] at *; done) | (unfold eqGuard; cases op <;> simp; done))
    | (have he := (opt_false h).1
       cases hu <;> cases hv <;> first | (simp [okAtom] at *; done) | (exfalso; simp [rawT] at he; done) | (unfold eqGuard; cases op <;> simp; done))
    | (rename_i ms hms
       have he := (opt_false h).1
       cases hu; cases hv
       have hg : (Op.eqGuardIn Op.maxDepth t .nilIface .nilIface).run P w = .ok false w := guardNil hms he 9999 w
       unfold eqGuard; cases op <;> simp [hg])

theorem binOther (t : TypeId) {u v u' v' : Value} {b : Bool} (h : eqV P t u v = some b) (hu : VR ρ u u') (hv : VR ρ v v') (w : World) :
    (binOp .eql t u' v').run P w = .ok (.bool b) w ∧ (binOp .neq t u' v').run P w = .ok (.bool !b) w := by
  have he := eqV_run h hu hv w
  unfold eqV at h
  split at h <;> first
    | (simp at h; done)
    | (cases hu <;> cases hv <;> first | (simp [okAtom] at *; done) | (simp [binOp, he]; done))
    | (have hb := (opt_false h).1
       cases hu <;> cases hv <;> first | (simp [okAtom] at *; done) | (exfalso; simp [rawT] at hb; done) | (simp [binOp, he]; done))

theorem eqV_int (t : TypeId) (k k' : IntKind) (m n : Int) : eqV P t (.int k m) (.int k' n) = none := by
  unfold eqV; split <;> first | rfl | (simp_all; done)
theorem eqV_string (t : TypeId) (m n : ByteArray) : eqV P t (.string m) (.string n) = none := by
  unfold eqV; split <;> first | rfl | (simp_all; done)

theorem part_run {t : TypeId} {cs : Array Value} {off : Nat} {v : Value} (ha : isAggO P t = some false) (hv : cs[off]? = some v) (w : World) : (part t cs off).run P w = .ok v w := by
  simp [part, isAggO_run ha, hv]

theorem eqF_run {xs ys xs' ys' : Array Value} (hx : VRs ρ xs.toList xs'.toList) (hy : VRs ρ ys.toList ys'.toList) (d : Nat) (w : World) : ∀ {fs : List Field} {b : Bool}, eqF P xs ys fs = some b →
    (Op.eqFields (d + 1) xs' ys' fs).run P w = .ok b w
  | [], b, h => by simp [eqF] at h; subst h; simp [Op.eqFields]
  | f :: fs, b, h => by
    simp only [eqF] at h
    cases hn : (f.name == "_") with
    | true => rw [hn] at h; simp at h
    | false =>
      rw [hn] at h; simp only [cond_false] at h
      have hn' : f.name ≠ "_" := by simpa using hn
      have cell : ∀ {zs zs' : Array Value} {v : Value}, VRs ρ zs.toList zs'.toList → zs[f.offset]? = some v → ∃ v', zs'[f.offset]? = some v' ∧ VR ρ v v' := by
        intro zs zs' v hz hv
        obtain ⟨v', k1, k2⟩ := hz.get (show zs.toList[f.offset]? = some v by simpa using hv)
        exact ⟨v', by simpa using k1, k2⟩
      have go : ∀ {u v : Value} {r : Bool}, isAggO P f.type = some false → xs'[f.offset]? = some u → ys'[f.offset]? = some v → (Op.equalIn (d + 1) f.type u v).run P w = .ok r w →
          (bif r then eqF P xs ys fs else some false) = some b → (Op.eqFields (d + 1) xs' ys' (f :: fs)).run P w = .ok b w := by
        intro u v r ha hu hv hr hb
        simp only [Op.eqFields, if_pos hn', Sem.run_bind, part_run ha hu, part_run ha hv, hr, Result.andThen_ok]
        cases r with
        | false => simp at hb; subst hb; simp
        | true => simpa using eqF_run hx hy d w hb
      split at h
      · rename_i q k a k' c ha hu h1 h2
        obtain ⟨u', j1, j2⟩ := cell hx h1
        obtain ⟨v', j3, j4⟩ := cell hy h2
        rw [j2.int] at j1
        rw [j4.int] at j3
        cases hk : decide (k = k') with
        | false => rw [hk] at h; simp at h
        | true =>
          rw [hk] at h
          obtain rfl := of_decide_eq_true hk
          refine go ha j1 j3 (run_equalIn_int w d f.type k q a c hu) ?_
          rw [← eqI_eq]; exact h
      · rename_i a c ha hu h1 h2
        obtain ⟨u', j1, j2⟩ := cell hx h1
        obtain ⟨v', j3, j4⟩ := cell hy h2
        rw [j2.string] at j1
        rw [j4.string] at j3
        exact go ha j1 j3 (run_equalIn_string w d f.type a c hu) h
      · rename_i a c ha hu h1 h2
        obtain ⟨u', j1, j2⟩ := cell hx h1
        obtain ⟨v', j3, j4⟩ := cell hy h2
        rw [j2.bool] at j1
        rw [j4.bool] at j3
        exact go ha j1 j3 (run_equalIn_bool' w d f.type a c hu) h
      · simp at h

theorem eqS_run {t : TypeId} {xs ys xs' ys' : Array Value} {b : Bool} (h : eqS P t xs ys = some b) (hx : VRs ρ xs.toList xs'.toList) (hy : VRs ρ ys.toList ys'.toList) (w : World) :
    (∀ op x y, (eqGuard op t x y (.agg xs') (.agg ys')).run P w = .ok () w) ∧ (Op.equalIn 10000 t (.agg xs') (.agg ys')).run P w = .ok b w := by
  unfold eqS at h
  split at h
  · rename_i fs hu
    obtain ⟨hc, h⟩ := opt_false h
    simp only [Bool.and_eq_true, Bool.not_eq_true'] at hc
    have hf : P.fieldsOf t = fs := by simp [Program.fieldsOf, hu]
    refine ⟨fun op x y => run_eqGuard_agg w op t x y xs' ys' hc.2, ?_⟩
    rw [run_equalIn_struct w 9999 t xs' ys' (by rw [hf]; exact hu) hc.1, hf]
    exact eqF_run hx hy 9998 w h
  · simp at h

theorem binV_run {op : BinOp} {t : TypeId} {x y : Operand} {u v u' v' r : Value} (h : binV P op t u v = some r) (hu : VR ρ u u') (hv : VR ρ v v') (w : World) :
    okAtom r = true ∧ ((do eqGuard op t x y u' v'; binOp op t u' v') : Sem Value).run P w = .ok r w := by
  unfold binV at h
  split at h
  · rename_i k m k' n
    obtain rfl := hu.int
    obtain rfl := hv.int
    simp only [Sem.run_bind, guardI, Result.andThen_ok]
    cases hs : isShift op with
    | true => rw [hs] at h; exact shiftI_run hs h w
    | false =>
      rw [hs] at h; simp only [cond_false] at h
      cases hk : decide (k = k') with
      | false => rw [hk] at h; simp at h
      | true => rw [hk] at h; simp only [cond_true] at h; obtain rfl := of_decide_eq_true hk; exact binI_run hs h w
  · obtain rfl := hu.string
    obtain rfl := hv.string
    simp only [Sem.run_bind, guardS, Result.andThen_ok]
    exact binS_run h w
  · rename_i xs ys
    cases hu with
    | atom hh => simp [okAtom] at hh
    | agg hu =>
      cases hv with
      | atom hh => simp [okAtom] at hh
      | agg hv =>
        rename_i xs' ys'
        split at h
        · rename_i b hb
          simp only [Option.some.injEq] at h; subst h
          obtain ⟨k1, k2⟩ := eqS_run hb hu hv w
          refine ⟨rfl, ?_⟩
          simp only [Sem.run_bind, k1, Result.andThen_ok, run_eql_struct, k2]
        · rename_i b hb
          simp only [Option.some.injEq] at h; subst h
          obtain ⟨k1, k2⟩ := eqS_run hb hu hv w
          refine ⟨rfl, ?_⟩
          simp only [Sem.run_bind, k1, Result.andThen_ok, run_neq_struct, k2]
        · simp at h
  · split at h
    · cases he : eqV P t u v with
      | none => rw [he] at h; simp at h
      | some b =>
        rw [he] at h; simp at h; subst h
        refine ⟨rfl, ?_⟩
        simp only [Sem.run_bind, guardE he hu hv, Result.andThen_ok]
        exact (binOther t he hu hv w).1
    · cases he : eqV P t u v with
      | none => rw [he] at h; simp at h
      | some b =>
        rw [he] at h; simp at h; subst h
        refine ⟨rfl, ?_⟩
        simp only [Sem.run_bind, guardE he hu hv, Result.andThen_ok]
        exact (binOther t he hu hv w).2
    · simp at h

theorem unV_run {op : UnOp} {u u' r : Value} (h : unV op u = some r) (hu : VR ρ u u') (w : World) :
    okAtom r = true ∧ (Op.unary op u').run P w = .ok r w := by
  unfold unV at h
  split at h
  · obtain rfl := hu.bool; simp at h; subst h; exact ⟨rfl, by simp [Op.unary]⟩
  · obtain rfl := hu.int; simp at h; subst h; exact ⟨rfl, by simp [Op.unary, Op.intArith]⟩
  · obtain rfl := hu.int; simp at h; subst h; exact ⟨rfl, by simp [Op.unary, Op.intBits]⟩
  · simp at h

theorem natV_eq {v v' : Value} {n : Nat} (h : natV v = some n) (hv : VR ρ v v') : ∃ k, v' = .int k (n : Int) := by
  unfold natV at h
  split at h
  · simp at h; subst h; obtain rfl := hv.int; exact ⟨_, rfl⟩
  · simp at h

/-! ### fill -/

theorem foldl_set_rel : ∀ (l l' : List (Value × Nat)) (cs cs' : Array Value) (off : Nat), VRs ρ (l.map (·.1)) (l'.map (·.1)) → l.map (·.2) = l'.map (·.2) → VRs ρ cs.toList cs'.toList →
    VRs ρ (l.foldl (fun cs x => cs.setIfInBounds (off + x.2) x.1) cs).toList (l'.foldl (fun cs x => cs.setIfInBounds (off + x.2) x.1) cs').toList
  | [], [], cs, cs', off, _, _, h => h
  | [], _ :: _, _, _, _, _, h, _ => by simp at h
  | _ :: _, [], _, _, _, _, h, _ => by simp at h
  | x :: l, x' :: l', cs, cs', off, h1, h2, h3 => by
    simp only [List.map_cons, List.cons.injEq] at h2
    simp only [List.map_cons] at h1
    cases h1 with
    | cons ha ht =>
      simp only [List.foldl_cons]
      refine foldl_set_rel l l' _ _ off ht h2.2 ?_
      rw [← h2.1]
      refine VRs.of_get (by simp [h3.length]) (fun i v v' hv hv' => ?_)
      simp only [Array.toList_setIfInBounds] at hv hv'
      rw [List.getElem?_set] at hv hv'
      by_cases e : off + x.2 = i
      · rw [if_pos e] at hv hv'
        by_cases hl : off + x.2 < cs.toList.length
        · rw [if_pos hl] at hv
          rw [if_pos (by rw [← h3.length]; exact hl)] at hv'
          simp at hv hv'; subst hv; subst hv'; exact ha
        · rw [if_neg hl] at hv; simp at hv
      · rw [if_neg e] at hv hv'
        obtain ⟨y, hy, hr⟩ := h3.get hv
        rw [hy] at hv'; simp at hv'; subst hv'; exact hr

theorem zipIdx_fst : ∀ (l : List Value) (k : Nat), (l.zipIdx k).map (·.1) = l
  | [], _ => rfl
  | x :: l, k => by simp [List.zipIdx_cons, zipIdx_fst l (k + 1)]
theorem zipIdx_snd : ∀ (l l' : List Value) (k : Nat), l.length = l'.length → (l.zipIdx k).map (·.2) = (l'.zipIdx k).map (·.2)
  | [], [], _, _ => rfl
  | [], _ :: _, _, h => by simp at h
  | _ :: _, [], _, h => by simp at h
  | x :: l, y :: l', k, h => by simp [List.zipIdx_cons, zipIdx_snd l l' (k + 1) (by simpa using h)]

theorem fill_rel (place : Nat → Option (Nat × Nat)) : ∀ (is : List Nat) (vs vs' : List Value) (cs cs' : Array Value) (r : Array Value), VRs ρ vs vs' → VRs ρ cs.toList cs'.toList →
    Instr.fill place cs (is.zip vs) = some r → ∃ r', Instr.fill place cs' (is.zip vs') = some r' ∧ VRs ρ r.toList r'.toList
  | [], vs, vs', cs, cs', r, _, hc, h => by simp [Instr.fill] at h ⊢; subst h; exact hc
  | i :: is, _, _, cs, cs', r, .nil, hc, h => by simp [Instr.fill] at h ⊢; subst h; exact hc
  | i :: is, _, _, cs, cs', r, .cons (v := v) (v' := v') hv ht, hc, h => by
    simp only [List.zip_cons_cons, Instr.fill] at h ⊢
    cases hp : place i with
    | none => rw [hp] at h; simp at h
    | some p =>
      rw [hp] at h
      obtain ⟨off, size⟩ := p
      dsimp only at h ⊢
      have hcl := hv.cells
      have h1 : v'.cells.size = v.cells.size := by have := hcl.length; simpa using this.symm
      have h2 : cs'.size = cs.size := by have := hc.length; simpa using this.symm
      rw [h1, h2]
      split at h
      · simp at h
      · rename_i hcond
        rw [if_neg hcond]
        refine fill_rel place is _ _ _ _ r ht ?_ h
        have e1 : ∀ (vv : Value) (cc : Array Value), (vv.cells.zipIdx.foldl (fun cs x => cs.setIfInBounds (off + x.2) x.1) cc) = (vv.cells.toList.zipIdx.foldl (fun cs x => cs.setIfInBounds (off + x.2) x.1) cc) := by
          intro vv cc
          rw [← Array.foldl_toList, Array.toList_zipIdx]
        have := foldl_set_rel v.cells.toList.zipIdx v'.cells.toList.zipIdx cs cs' off (by rw [zipIdx_fst, zipIdx_fst]; exact hcl) (zipIdx_snd _ _ 0 hcl.length) hc
        rw [← e1, ← e1] at this
        exact this

end
end Go.Proofs.YtdocmpnofklaoaaGreatDoor.Ev

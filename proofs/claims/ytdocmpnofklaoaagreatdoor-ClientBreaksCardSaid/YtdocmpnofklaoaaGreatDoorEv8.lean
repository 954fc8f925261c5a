/- The operations that read. -/
import Derived.Test.YtdocmpnofklaoaaGreatDoorEv7
import Derived.Laws.BytesArg
namespace Go.Proofs.YtdocmpnofklaoaaGreatDoor.Ev
open Go
set_option linter.unusedSimpArgs false

section
variable {P : Program} {ρ : Rho} {s : Fr} {a : Act} {g : Nat → Option AObj}

def SimR (P : Program) (ρ : Rho) (g : Nat → Option AObj) (a : Act) (o : Oper) (v : Value) : Prop :=
  ∀ w : World, HR ρ g w → ∃ w' v', (execOp a.eval o).run P w = .ok (.value v') w' ∧ VR ρ v v' ∧ (w'.heap.size = w.heap.size ∧ Env w w') ∧ HR ρ g w' ∧ ∀ b, FreeM ρ g b → w'.heap[b]? = w.heap[b]?

theorem SimR.of_same {o : Oper} {v v' : Value} {w : World} (h : (execOp a.eval o).run P w = .ok (.value v') w) (hv : VR ρ v v') (hg : HR ρ g w) :
    ∃ w' v', (execOp a.eval o).run P w = .ok (.value v') w' ∧ VR ρ v v' ∧ (w'.heap.size = w.heap.size ∧ Env w w') ∧ HR ρ g w' ∧ ∀ b, FreeM ρ g b → w'.heap[b]? = w.heap[b]? :=
  ⟨w, v', h, hv, ⟨rfl, Env.refl w⟩, hg, fun _ _ => rfl⟩

theorem rowCells_get : ∀ {cs : T Value} {n o : Nat} {vs : List Value}, rowCells cs o n = some vs → vs.length = n ∧ ∀ j v, vs[j]? = some v → cs.get (o + j) = some v
  | cs, 0, o, vs, h => by simp [rowCells] at h; subst h; simp
  | cs, n + 1, o, vs, h => by
    simp only [rowCells] at h
    cases h1 : cs.get o with
    | none => rw [h1] at h; simp at h
    | some v =>
      rw [h1] at h
      cases h2 : rowCells cs (o + 1) n with
      | none => rw [h2] at h; simp at h
      | some ws =>
        rw [h2] at h; simp at h; subst h
        obtain ⟨e1, e2⟩ := rowCells_get h2
        refine ⟨by simp [e1], fun j u hj => ?_⟩
        cases j with
        | zero => simp at hj; subst hj; exact h1
        | succ j => have := e2 j u (by simpa using hj); rw [← this]; congr 1; omega

theorem cell_of {w : World} {b : Nat} {arr : Array Value} {e : TypeId} {fr : Nat × Nat} (h : w.heap[b]? = some (.cells arr e fr)) (o : Nat) : w.cell? ⟨b, o, none⟩ = arr[o]? := by
  simp [World.cell?, h]

theorem loadN_sim {b o n : Nat} {vs : List Value} {i : BI} {w : World} (h : loadN g b o n = some vs) (hi : ρ b = some i) (hg : HR ρ g w) :
    vs.length = n ∧ ∃ vs', VRs ρ vs vs' ∧ ∀ (j : Nat) v, vs'[j]? = some v → w.cell? ⟨i.b, i.base + o + j, none⟩ = some v := by
  unfold loadN at h
  split at h
  · rename_i m cs e hb
    obtain ⟨hc, h⟩ := opt_false h
    replace hc := Nat.le_of_ble_eq_true hc
    obtain ⟨e1, e2⟩ := rowCells_get h
    obtain ⟨arr, e', fr, h1, h2, h3, h4, h5⟩ := hg.obj b i _ hi hb
    refine ⟨e1, (List.range n).map (fun j => arr.getD (i.base + o + j) undef), VRs.of_get (by simp [e1]) (fun j v v' hv hv' => ?_), fun j v hv => ?_⟩
    · have hj : j < n := by
        rcases Nat.lt_or_ge j n with x | x
        · exact x
        · rw [List.getElem?_eq_none (by omega)] at hv; simp at hv
      obtain ⟨u, hu1, hu2⟩ := h5 (o + j) v (by omega) (e2 j v hv)
      rw [List.getElem?_map, List.getElem?_range hj] at hv'
      simp only [Option.map_some, Option.some.injEq, Array.getD_eq_getD_getElem?] at hv'
      rw [show i.base + o + j = i.base + (o + j) by omega, hu1] at hv'
      simp at hv'; subst hv'; exact hu2
    · rcases Nat.lt_or_ge j n with x | x
      · rw [List.getElem?_map, List.getElem?_range x] at hv
        simp only [Option.map_some, Option.some.injEq, Array.getD_eq_getD_getElem?] at hv
        have hlt : i.base + o + j < arr.size := by omega
        rw [cell_of h1, ← hv]
        simp [hlt]
      · rw [List.getElem?_eq_none (by simpa using x)] at hv; simp at hv
  · simp at h

theorem run_loadList {w : World} {b o : Nat} {vs : List Value} (h : ∀ (j : Nat) v, vs[j]? = some v → w.cell? ⟨b, o + j, none⟩ = some v) :
    (loadCells ⟨b, o, none⟩ vs.length).run P w = .ok vs.toArray w :=
  run_loadCells_list w ⟨b, o, none⟩ vs fun j v hj => by rw [addr_add]; exact h j v hj

theorem loadT_sim {t : TypeId} {b : Addr} {v : Value} {i : BI} {w : World} (h : loadT P g t b = some v) (hi : ρ b.block = some i) (hg : HR ρ g w) :
    ∃ v', VR ρ v v' ∧ (loadVar t ⟨i.b, i.base + b.off, none⟩).run P w = .ok v' w := by
  unfold loadT at h
  cases hsp : b.spot.isSome with
  | true => rw [hsp] at h; simp at h
  | false =>
    rw [hsp] at h; simp only [cond_false] at h
    split at h
    · rename_i ha
      split at h
      · rename_i n hn
        split at h
        · rename_i vs hvs
          simp at h; subst h
          obtain ⟨hl, vs', hr, hc⟩ := loadN_sim hvs hi hg
          refine ⟨.agg vs'.toArray, .agg (by simpa using hr), ?_⟩
          have hlen : n = vs'.length := by rw [← hr.length, hl]
          simp only [loadVar, Sem.run_bind, isAggO_run ha, Result.andThen_ok, if_true, sizeO_run hn]
          rw [hlen, run_loadList hc]; rfl
        · simp at h
      · simp at h
    · rename_i ha
      split at h
      · rename_i u hvs
        simp at h; subst h
        obtain ⟨hl, vs', hr, hc⟩ := loadN_sim hvs hi hg
        cases hr with
        | cons hv ht =>
          cases ht
          rename_i u'
          refine ⟨u', hv, ?_⟩
          have := hc 0 u' rfl
          simp only [Nat.add_zero] at this
          simp [loadVar, isAggO_run ha, this]
      · simp at h
    · simp at h

theorem simLoad {o : Oper} {t : TypeId} {x : Operand} {v : Value} (ho : o.op = .load t x) (h : execR P s g o.op = some v) (ht : TR ρ s a.tmps) : SimR P ρ g a o v := by
  rw [ho] at h; simp only [execR] at h
  split at h
  · rename_i b hx
    intro w hg
    have hv := ht.ev hx
    generalize e : a.eval x = u at hv
    cases hv with
    | atom hh => simp [okAtom] at hh
    | ptr h1 h2 =>
      obtain ⟨v', hv', hr⟩ := loadT_sim h h1 hg
      exact SimR.of_same (by simp [execOp, ho, e, Instr.loadAt, Instr.sureAddr, hr]) hv' hg
  · simp at h

theorem sameNow_rel {d : TypeDesc} {k k' e e' : Value} {b : Bool} (hk : VR ρ k k') (he : VR ρ e e') (h : Instr.sameNow d k e = some b) : Instr.sameNow d k' e' = some b := by
  unfold Instr.sameNow at h
  split at h
  · obtain rfl := hk.int; obtain rfl := he.int; simpa [Instr.sameNow] using h
  · obtain rfl := hk.string; obtain rfl := he.string; simpa [Instr.sameNow] using h
  · obtain rfl := hk.bool; obtain rfl := he.bool; simpa [Instr.sameNow] using h
  · simp at h

inductive FR (ρ : Rho) : Option (Nat × Value) → Option (Nat × Value) → Prop
  | none : FR ρ none none
  | some {i : Nat} {v v' : Value} (h : VR ρ v v') : FR ρ (some (i, v)) (some (i, v'))

theorem findNow_rel {d : TypeDesc} {k k' : Value} (hk : VR ρ k k') : ∀ {es es' : List MapEntry} {i : Nat} {r : Option (Nat × Value)}, MRs ρ es es' → Instr.findNow d k es i = some r →
    ∃ r', Instr.findNow d k' es' i = some r' ∧ FR ρ r r'
  | _, _, i, r, .nil, h => by simp [Instr.findNow] at h ⊢; subst h; exact .none
  | _, _, i, r, .cons hkey hval hb ht, h => by
    simp only [Instr.findNow] at h ⊢
    split at h
    · rename_i hs
      rw [sameNow_rel hk hkey hs]
      simp only [Option.some.injEq] at h ⊢; subst h
      exact ⟨_, rfl, .some hval⟩
    · rename_i hs
      rw [sameNow_rel hk hkey hs]
      exact findNow_rel hk ht h
    · simp at h

theorem checkKey_ok {b : Bool} {n : Nat} {t : TypeId} {d : TypeDesc} {v : Value} (hd : P.underlying t = some d) (hp : plainKey d = true) (w : World) : (Instr.checkKey b (n + 1) t v).run P w = .ok () w := by
  cases d <;> simp [plainKey] at hp <;> simp [Instr.checkKey, run_under hd]

theorem findKey_ok {t : TypeId} {d : TypeDesc} {k : Value} {es : List MapEntry} {r : Option (Nat × Value)} (hd : P.underlying t = some d) (h : Instr.findNow d k es 0 = some r) (w : World) :
    (Instr.findKey t k es).run P w = .ok r w := by
  simp [Instr.findKey, run_under hd, h]

theorem lookup_run {t kt e : TypeId} {d : TypeDesc} {z xv kv : Value} {ok : Bool} {es : Array MapEntry} {r : Option (Nat × Value)} {w : World} (hd : P.underlying t = some (.map kt e)) (hkd : P.underlying kt = some d)
    (hp : plainKey d = true) (hz : ∀ w, (zeroValue e).run P w = .ok z w) (hx : (xv = .map none ∧ es = #[]) ∨ ∃ b cl, xv = .map (some b) ∧ w.heap[b]? = some (.map es cl)) (hf : Instr.findNow d kv es.toList 0 = some r) :
    (Instr.lookup t xv kv ok).run P w = .ok (match r with
      | some p => if ok then .tuple #[p.2, .bool true] else p.2
      | none => if ok then .tuple #[z, .bool false] else z) w := by
  have hch : ∀ b, (Instr.checkKey b 10000 kt kv).run P w = .ok () w := fun b => checkKey_ok (n := 9999) hkd hp w
  have hfk := findKey_ok (P := P) hkd hf w
  unfold Instr.lookup
  rcases hx with ⟨rfl, rfl⟩ | ⟨b, cl, rfl, hb⟩
  · simp only [Sem.run_bind, run_under hd, Result.andThen_ok, Sem.run_pure, hch, hfk]
    cases r <;> simp [hz]
  · have hgo : (getObj b).run P w = .ok (.map es cl) w := by simp [getObj, Sem.run, hb]
    simp only [Sem.run_bind, run_under hd, Result.andThen_ok, hgo, Sem.run_pure, hch, hfk]
    cases r <;> simp [hz]

theorem simLookup {o : Oper} {t : TypeId} {x k : Operand} {ok : Bool} {v : Value} (ho : o.op = .lookup t x k ok) (h : execR P s g o.op = some v) (ht : TR ρ s a.tmps) : SimR P ρ g a o v := by
  rw [ho] at h; simp only [execR] at h
  split at h
  · rename_i kt e m kv hd hx hk
    split at h
    · rename_i d z hkd hz
      have hp := (opt_false h).1
      replace h := (opt_false h).2
      obtain ⟨hzok, hzr⟩ := zeroO_run hz
      have hkv := ht.ev hk
      have hm := ht.ev hx
      intro w hg
      have key : ∃ es' r r', ((a.eval x = .map none ∧ es' = #[]) ∨ ∃ b cl, a.eval x = .map (some b) ∧ w.heap[b]? = some (.map es' cl)) ∧ Instr.findNow d (a.eval k) es'.toList 0 = some r' ∧ FR ρ r r' ∧
            v = (match r with | some p => (bif ok then .tuple #[p.2, .bool true] else p.2) | none => (bif ok then .tuple #[z, .bool false] else z)) := by
        generalize ex : a.eval x = u at hm
        split at h
        · rename_i p hmm
          split at hmm
          · simp at hmm
          · rename_i r1
            split at hmm
            · rename_i es cl hgr
              cases hm with
              | atom hh => simp [okAtom] at hh
              | map hr =>
                rename_i i
                obtain ⟨es', h1, h2⟩ := hg.obj _ _ _ hr hgr
                obtain ⟨r', h3, h4⟩ := findNow_rel hkv h2 hmm
                exact ⟨es', some p, r', .inr ⟨_, _, rfl, h1⟩, h3, h4, by simpa using h.symm⟩
            · simp at hmm
          · simp at hmm
        · rename_i hmm
          split at hmm
          · obtain rfl := hm.mapNone
            exact ⟨#[], none, none, .inl ⟨rfl, rfl⟩, rfl, .none, by simpa using h.symm⟩
          · rename_i r1
            split at hmm
            · rename_i es cl hgr
              cases hm with
              | atom hh => simp [okAtom] at hh
              | map hr =>
                rename_i i
                obtain ⟨es', h1, h2⟩ := hg.obj _ _ _ hr hgr
                obtain ⟨r', h3, h4⟩ := findNow_rel hkv h2 hmm
                exact ⟨es', none, r', .inr ⟨_, _, rfl, h1⟩, h3, h4, by simpa using h.symm⟩
            · simp at hmm
          · simp at hmm
        · simp at h
      obtain ⟨es', r, r', hx', hf, hr, rfl⟩ := key
      have hlook := lookup_run (P := P) (ok := ok) hd hkd hp hzr hx' hf
      cases hr with
      | none => exact SimR.of_same (v' := if ok then .tuple #[z, .bool false] else z) (by simp [execOp, ho, hlook]) (by cases ok with
          | true => exact .tuple (.cons (VR.okZ hzok) (.cons (.atom rfl) .nil))
          | false => exact VR.okZ hzok) hg
      | @some i1 v1 v1' hv => exact SimR.of_same (v' := if ok then .tuple #[v1', .bool true] else v1') (by simp [execOp, ho, hlook]) (by cases ok with
          | true => exact .tuple (.cons hv (.cons (.atom rfl) .nil))
          | false => exact hv) hg
    · simp at h
  · simp at h

theorem simLen {o : Oper} {c : Call} {v : Value} (ho : o.op = .call c) (h : execR P s g o.op = some v) (ht : TR ρ s a.tmps) : SimR P ρ g a o v := by
  rw [ho] at h; simp only [execR] at h
  split at h
  · rename_i hcal
    split at h
    · rename_i t x hty hax
      have hx0 : c.args[0]? = some x := hax
      intro w hg
      have harg : (c.args.map a.eval)[0]? = some (a.eval x) := by simp [hx0]
      have hres : ∀ r, (Builtin.len_ c.argTypes o.type (c.args.map a.eval)).run P w = .ok r w → (execOp a.eval o).run P w = .ok (.value r) w := by
        intro r hr
        simp [execOp, ho, resolve, hcal, invoke, builtin, hr]
      split at h
      · rename_i b hd hx
        have e := (ht.ev hx).string
        simp at h; subst h
        exact SimR.of_same (hres _ (by simp [Builtin.len_, hty, harg, run_under hd, e])) (.atom rfl) hg
      · rename_i e' b n c' hd hx
        have hv := ht.ev hx
        simp at h; subst h
        generalize e : a.eval x = u at hv
        cases hv with
        | atom hh => exact SimR.of_same (hres _ (by simp [Builtin.len_, hty, harg, run_under hd, e])) (.atom rfl) hg
        | slice => exact SimR.of_same (hres _ (by simp [Builtin.len_, hty, harg, run_under hd, e])) (.atom rfl) hg
      · rename_i k e' hd hx
        have e := (ht.ev hx).mapNone
        simp at h; subst h
        exact SimR.of_same (hres _ (by simp [Builtin.len_, hty, harg, run_under hd, e])) (.atom rfl) hg
      · rename_i k e' r hd hx
        split at h
        · rename_i es cl hgr
          simp at h; subst h
          have hv := ht.ev hx
          generalize e : a.eval x = u at hv
          cases hv with
          | atom hh => simp [okAtom] at hh
          | map hr =>
            obtain ⟨es', h1, h2⟩ := hg.obj _ _ _ hr hgr
            have hl := h2.length
            exact SimR.of_same (v' := goInt es'.size) (hres _ (by simp [Builtin.len_, hty, harg, run_under hd, e, getObj, Sem.run, h1])) (by rw [← hl]; exact .atom rfl) hg
        · simp at h
      · simp at h
    · simp at h
  · simp at h

theorem heap_freeze (w : World) (b n : Nat) (arr : Array Value) (e : TypeId) (fr : Nat × Nat) (hb : w.heap[b]? = some (.cells arr e fr)) :
    ((w.freeze ⟨b, n, none⟩ 1).heap[b]? = some (.cells arr e (if fr.1 == fr.2 then (n, n + 1) else (min fr.1 n, max fr.2 (n + 1))))) ∧
      (∀ x, x ≠ b → (w.freeze ⟨b, n, none⟩ 1).heap[x]? = w.heap[x]?) ∧ (w.freeze ⟨b, n, none⟩ 1).heap.size = w.heap.size := by
  unfold World.freeze
  refine ⟨?_, fun x hx => ?_, ?_⟩
  · simp [Array.getElem?_modify, hb]
  · simp [Array.getElem?_modify, Ne.symm hx]
  · simp

theorem HR.freeze {w : World} {b : Nat} {i : BI} {m : Nat} {cs : T Value} {e : TypeId} (hg : HR ρ g w) (hi : ρ b = some i) (hb : g b = some (.row m cs e)) (hro : Nat.beq e roT = false) :
    ∃ arr e' fr, w.heap[i.b]? = some (.cells arr e' fr) ∧ HR ρ g (w.freeze ⟨i.b, arr.size, none⟩ 1) ∧ (∀ x, FreeM ρ g x → (w.freeze ⟨i.b, arr.size, none⟩ 1).heap[x]? = w.heap[x]?) := by
  obtain ⟨arr, e', fr, h1, h2, h3, h4, h5⟩ := hg.obj b i _ hi hb
  replace h4 := h4.resolve_left (by rw [hro]; simp)
  obtain ⟨f1, f2, f3⟩ := heap_freeze w i.b arr.size arr e' fr h1
  refine ⟨arr, e', fr, h1, ⟨fun a' i' o' hi' ho' => ?_, hg.inj, fun a' i' hi' => by rw [f3]; exact hg.lt a' i' hi'⟩, fun x hx => f2 x (fun e => hx b i _ hi hb (by simp [AObj.mut, AObj.live, AObj.ro, hro]) e.symm)⟩
  by_cases hbb : i'.b = i.b
  · cases hl : o'.live with
    | false => cases o' <;> simp [AObj.live] at hl; trivial
    | true =>
      obtain rfl := (hg.inj b a' i i' _ o' hi hi' hb ho' (by simp [AObj.mut, AObj.live, AObj.ro, hro]) hl hbb.symm).symm
      rw [hi] at hi'; simp at hi'; subst hi'
      rw [hb] at ho'; simp at ho'; subst ho'
      refine ⟨arr, e', _, f1, h2, h3, .inr ?_, h5⟩
      split
      · exact .inr (by rw [h2]; exact Nat.le_refl _)
      · rename_i hne
        rcases h4 with h | h
        · exact absurd (by simp [h]) hne
        · right; simp only [Nat.le_min]; omega
  · rw [f2 i'.b hbb]; exact hg.obj a' i' o' hi' ho'

theorem bytesOf_nums : ∀ {vs : List Value} {l : List UInt8}, bytesOf vs = some l → ∃ ns : List Int, vs = ns.map (Value.int .u8) ∧ l = ns.map fun n => UInt8.ofNat n.toNat
  | [], l, h => by simp [bytesOf] at h; subst h; exact ⟨[], rfl, rfl⟩
  | v :: vs, l, h => by
    unfold bytesOf at h
    split at h
    · simp at *
    · rename_i n r e
      simp only [List.cons.injEq] at e
      obtain ⟨rfl, rfl⟩ := e
      split at h
      · rename_i l' hl'
        simp at h; subst h
        obtain ⟨ns, e1, e2⟩ := bytesOf_nums hl'
        exact ⟨n :: ns, by simp [e1], by simp [e2]⟩
      · simp at h
    · simp at h

theorem VRs.ints : ∀ {ns : List Int} {k : IntKind} {vs' : List Value}, VRs ρ (ns.map (Value.int k)) vs' → vs' = ns.map (Value.int k)
  | [], _, _, h => by cases h; rfl
  | n :: ns, k, _, h => by
    cases h with
    | cons a t => rw [a.int, VRs.ints t]; rfl

theorem simConvR {o : Oper} {src dst : TypeId} {x : Operand} {v : Value} (ho : o.op = .convert src dst x) (h : execR P s g o.op = some v) (ht : TR ρ s a.tmps) : SimR P ρ g a o v := by
  rw [ho] at h; simp only [execR] at h
  intro w hg
  split at h
  · rename_i d k q n hs hd hx
    simp at h; subst h
    have e := (ht.ev hx).int
    exact SimR.of_same (by simp [execOp, ho, convert, run_under hs, run_under hd, e, Conv.intToInt]) (.atom rfl) hg
  · rename_i d b hs hd hx
    simp at h; subst h
    have e := (ht.ev hx).string
    exact SimR.of_same (by simp [execOp, ho, convert, run_under hs, run_under hd, e]) (.atom rfl) hg
  · rename_i e1 e2 b n c hs hd hx
    split at h
    · rename_i m cs e3 he hgb
      obtain ⟨hsd, h⟩ := opt_false h
      simp at h; subst h
      have hv := ht.ev hx
      generalize e : a.eval x = u at hv
      simp only [Bool.and_eq_true, Bool.not_eq_true'] at hsd
      have hsd' : (src == dst) = true := by simpa using hsd.1
      cases hv with
      | atom hh => simp [okAtom] at hh
      | slice h1 h2 h3 h4 h5 h6 h7 =>
        rename_i i sp c' o'
        obtain ⟨arr, e', fr, k1, k2, k3⟩ := hg.freeze h1 hgb hsd.2
        refine ⟨w.freeze ⟨i.b, arr.size, none⟩ 1, .slice (some ⟨i.b, o', none⟩) n c', ?_, .slice h1 h2 h3 h4 h5 h6 h7, ⟨(heap_freeze w i.b arr.size arr e' fr k1).2.2, rfl, rfl⟩, k2, k3⟩
        have hsh : w.shape? i.b = some (e', arr.size) := by simp [World.shape?, k1]
        simp [execOp, ho, convert, run_under hs, run_under hd, e, hsd', run_under he, markStringish, hsh]
    · simp at h
  · rename_i e1 c n hs hd hx
    split at h
    · rename_i he
      simp at h; subst h
      have e := (ht.ev hx).sliceNone
      exact SimR.of_same (by simp [execOp, ho, e, run_convert_bytes_nil w src e1 hs he _ _ dst hd]) (.atom rfl) hg
    · simp at h
  · rename_i e1 b n c hs hd hx
    split at h
    · rename_i vs he hvs
      split at h
      · rename_i l hl
        simp at h; subst h
        obtain ⟨ns, e2, e3⟩ := bytesOf_nums hl
        have hv := ht.ev hx
        generalize e : a.eval x = u at hv
        cases hv with
        | atom hh => simp [okAtom] at hh
        | slice h1 h2 h3 h4 h5 h6 h7 =>
          rename_i i sp c' o'
          obtain ⟨hlen, vs', hr, hc⟩ := loadN_sim hvs h1 hg
          rw [e2] at hr hlen
          obtain rfl := hr.ints
          simp only [List.length_map] at hlen
          have hload : (loadCells ⟨i.b, o', none⟩ n).run P w = .ok (ns.map (Value.int .u8)).toArray w := by
            cases ns with
            | nil => simp at hlen; subst hlen; simp [loadCells, loadCellsFrom]
            | cons n0 ns' =>
              have hpos : 0 < c := by simp at hlen; omega
              rw [h6 hpos]
              have := run_loadList (P := P) hc
              rwa [List.length_map, hlen] at this
          refine SimR.of_same (v' := .string ⟨l.toArray⟩) ?_ (.atom rfl) hg
          simp only [execOp, ho, Sem.run_bind, e, run_convert_bytes_string w src dst e1 _ n c' hs he hd, run_bytesToString w _ n c' ns hload, Result.andThen_ok, Sem.run_pure, foldl_push_bytes, e3]
          simp [ByteArray.empty, ByteArray.emptyWithCapacity]
          rfl
      · simp at h
    · simp at h
  · simp at h

theorem simR {o : Oper} {v : Value} (h : execR P s g o.op = some v) (ht : TR ρ s a.tmps) : SimR P ρ g a o v := by
  cases ho : o.op with
  | load t x => exact simLoad ho h ht
  | lookup t x k ok => exact simLookup ho h ht
  | convert t u x => exact simConvR ho h ht
  | call c => exact simLen ho h ht
  | _ => rw [ho] at h; simp [execR] at h

end
end Go.Proofs.YtdocmpnofklaoaaGreatDoor.Ev

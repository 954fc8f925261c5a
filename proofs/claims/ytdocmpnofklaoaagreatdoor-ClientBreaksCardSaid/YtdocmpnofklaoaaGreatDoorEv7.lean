/- The operations that lay one new object. -/
import Derived.Test.YtdocmpnofklaoaaGreatDoorEv6
namespace Go.Proofs.YtdocmpnofklaoaaGreatDoor.Ev
open Go
set_option linter.unusedSimpArgs false

section
variable {P : Program} {ρ : Rho} {s : Fr} {a : Act}

def Upd (ρ : Rho) (a : Nat) (i : BI) : Rho := fun x => if x = a then some i else ρ x
theorem Upd.same (ρ : Rho) (a : Nat) (i : BI) : Upd ρ a i a = some i := by simp [Upd]
theorem Upd.sub {ρ : Rho} {a : Nat} (i : BI) (h : ρ a = none) : Sub ρ (Upd ρ a i) := fun x j hx => by
  simp only [Upd]; split
  · rename_i e; subst e; rw [h] at hx; simp at hx
  · exact hx

def SimA (P : Program) (ρ : Rho) (a : Act) (o : Oper) (v : Value) (ob : AObj) (nid : Nat) : Prop :=
  ∀ w : World, ρ nid = none → ∃ w' v' o' N, (execOp a.eval o).run P w = .ok (.value v') w' ∧ (w'.heap = w.heap.push o' ∧ Env w w') ∧
    VR (Upd ρ nid ⟨w.heap.size, 0, N⟩) v v' ∧ OR (Upd ρ nid ⟨w.heap.size, 0, N⟩) ⟨w.heap.size, 0, N⟩ ob (some o')

theorem OR_rowOf {e e' : TypeId} {cs cs' : List Value} {arr : Array Value} {b : Nat} {fr : Nat × Nat} (h : VRs ρ cs cs') (hp : cs' <+: arr.toList)
    (hfr : fr.1 = fr.2 ∨ arr.size ≤ fr.1) : OR ρ ⟨b, 0, arr.size⟩ (rowOf e cs) (some (.cells arr e' fr)) := by
  refine ⟨arr, e', fr, rfl, rfl, ?_, .inr hfr, fun j v hj hv => ?_⟩
  · have := hp.length_le; rw [← h.length] at this; simpa using this
  · rw [T.get_ofListFrom, if_pos ⟨by omega, by omega⟩] at hv
    obtain ⟨v', h1, h2⟩ := h.get (by simpa using hv)
    refine ⟨v', ?_, h2⟩
    obtain ⟨r, hr⟩ := hp
    show arr[0 + j]? = some v'
    rw [Nat.zero_add, ← Array.getElem?_toList, ← hr, List.getElem?_append_left (by rw [← h.length]; exact hj), h1]

theorem simAlloc {o : Oper} {e : TypeId} {nid : Nat} {v : Value} {ob : AObj} (ho : o.op = .alloc e) (h : execA P s o.op nid = some (v, ob)) : SimA P ρ a o v ob nid := by
  rw [ho] at h; simp only [execA] at h
  split at h
  · rename_i z hz
    simp at h; obtain ⟨rfl, rfl⟩ := h
    obtain ⟨hok, hrun⟩ := zeroO_run hz
    intro w hn
    refine ⟨{ w with heap := w.heap.push (.cells z.cells e) }, .pointer (some ⟨w.heap.size, 0, none⟩), .cells z.cells e, z.cells.size, ?_, ⟨rfl, rfl, rfl⟩, ?_, ?_⟩
    · simp [execOp, ho, Instr.alloc, hrun, newVar, newRow]
    · exact .ptr (i := ⟨w.heap.size, 0, z.cells.size⟩) (Upd.same _ _ _) rfl
    · exact OR_rowOf (VR.okZ hok).cells (List.prefix_refl _) (.inl rfl)
  · simp at h

theorem simBox {o : Oper} {e : TypeId} {x : Operand} {nid : Nat} {v : Value} {ob : AObj} (ho : o.op = .box e x) (h : execA P s o.op nid = some (v, ob)) (ht : TR ρ s a.tmps) : SimA P ρ a o v ob nid := by
  rw [ho] at h; simp only [execA] at h
  split at h
  · rename_i u hu
    simp at h; obtain ⟨rfl, rfl⟩ := h
    intro w hn
    have hv := ht.ev hu
    refine ⟨{ w with heap := w.heap.push (.cells (a.eval x).cells e) }, .pointer (some ⟨w.heap.size, 0, none⟩), .cells (a.eval x).cells e, (a.eval x).cells.size, ?_, ⟨rfl, rfl, rfl⟩, ?_, ?_⟩
    · simp [execOp, ho, Instr.box, newVar, newRow]
    · exact .ptr (i := ⟨w.heap.size, 0, (a.eval x).cells.size⟩) (Upd.same _ _ _) rfl
    · exact OR_rowOf (hv.mono (Upd.sub _ hn)).cells (List.prefix_refl _) (.inl rfl)
  · simp at h

theorem simMakeMap {o : Oper} {t : TypeId} {r : Option Operand} {nid : Nat} {v : Value} {ob : AObj} (ho : o.op = .makeMap t r) (h : execA P s o.op nid = some (v, ob)) (ht : TR ρ s a.tmps) : SimA P ρ a o v ob nid := by
  rw [ho] at h; simp only [execA] at h
  split at h
  · simp at h; obtain ⟨rfl, rfl⟩ := h
    intro w hn
    refine ⟨{ w with heap := w.heap.push (.map #[] 0) }, .map (some w.heap.size), .map #[] 0, 0, ?_, ⟨rfl, rfl, rfl⟩, ?_, ?_⟩
    · simp [execOp, ho, Instr.makeMap]
    · exact .map (i := ⟨w.heap.size, 0, 0⟩) (Upd.same _ _ _)
    · exact ⟨#[], rfl, .nil⟩
  · rename_i r'
    split at h
    · rename_i kt e k n hd hr
      simp at h; obtain ⟨rfl, rfl⟩ := h
      intro w hn
      have e1 := (ht.ev hr).int
      refine ⟨{ w with heap := w.heap.push (.map #[] 0) }, .map (some w.heap.size), .map #[] 0, 0, ?_, ⟨rfl, rfl, rfl⟩, ?_, ?_⟩
      · simp [execOp, ho, Instr.makeMap, run_under hd, e1, asInt, asIntOf]
      · exact .map (i := ⟨w.heap.size, 0, 0⟩) (Upd.same _ _ _)
      · exact ⟨#[], rfl, .nil⟩
    · simp at h

theorem VRs.zeros {z : Array Value} (h : z.toList.all okAtom = true) (hz : 1 ≤ z.size) (n : Nat) :
    VRs ρ ((List.range n).map fun j => z.getD (j % z.size) undef) ((List.range n).map fun j => z[j % z.size]!) := by
  refine VRs.of_get (by simp) (fun i v v' h1 h2 => ?_)
  simp only [List.getElem?_map] at h1 h2
  by_cases hi : i < n
  · rw [List.getElem?_range hi] at h1 h2
    have hlt : i % z.size < z.size := Nat.mod_lt _ (by omega)
    simp only [Option.map_some, Option.some.injEq, Array.getD, hlt, dite_true, getElem!_pos z (i % z.size) hlt] at h1 h2
    subst h1; subst h2
    refine .atom ?_
    have := List.all_eq_true.1 h (z[i % z.size]) (by simp)
    simpa using this
  · rw [List.getElem?_eq_none (by simpa using Nat.le_of_not_lt hi)] at h1; simp at h1

theorem simMakeSlice {o : Oper} {t : TypeId} {l c : Operand} {nid : Nat} {v : Value} {ob : AObj} (ho : o.op = .makeSlice t l c) (h : execA P s o.op nid = some (v, ob)) (ht : TR ρ s a.tmps) : SimA P ρ a o v ob nid := by
  rw [ho] at h; simp only [execA] at h
  split at h
  · rename_i e hd
    split at h
    · rename_i z bs zero lv cv hz hbs hzero hl hc
      split at h
      · rename_i ln cn hln hcn
        obtain ⟨hcond, h⟩ := opt_false h
        simp only [Option.some.injEq, Prod.mk.injEq] at h
        obtain ⟨rfl, rfl⟩ := h
        simp only [Bool.and_eq_true, Nat.beq_eq] at hcond
        obtain ⟨⟨⟨⟨c1, c2⟩, c3⟩, c4⟩, c5⟩ := hcond
        replace c1 := Nat.le_of_ble_eq_true c1
        replace c2 := Nat.le_of_ble_eq_true c2
        replace c3 := Nat.le_of_ble_eq_true c3
        replace c5 := Nat.le_of_ble_eq_true c5
        obtain ⟨kl, el⟩ := natV_eq hln (ht.ev hl)
        obtain ⟨kc, ec⟩ := natV_eq hcn (ht.ev hc)
        obtain ⟨i, hi, hiz, hib⟩ : ∃ i, P.info? e = some i ∧ i.size = z ∧ i.bytes = bs := by
          simp only [sizeO] at hz; simp only [bytesO] at hbs
          cases hi : P.info? e with
          | none => rw [hi] at hz; simp at hz
          | some i => rw [hi] at hz hbs; simp at hz hbs; exact ⟨i, rfl, hz, hbs⟩
        have hzz : i.zero = some zero ∧ okZ zero = true := by
          simp only [zeroO, hi] at hzero
          cases hz' : i.zero with
          | none => rw [hz'] at hzero; simp at hzero
          | some q => rw [hz'] at hzero; obtain ⟨h1, h2⟩ := opt_false hzero; simp at h2; subst h2; exact ⟨rfl, h1⟩
        intro w hn
        have hb' : (i.bytes : Int) * (cn : Int) ≤ 281474976710656 := by
          have h : ((i.bytes * cn : Nat) : Int) ≤ 281474976710656 := by rw [hib, Nat.mul_comm]; omega
          rwa [Int.natCast_mul] at h
        have hr := run_make (P := P) w t e i zero hd hi hzz.1 kl kc (ln : Int) (cn : Int) (by omega) (by omega) hb' (by omega)
        simp only [Int.toNat_natCast, hiz] at hr
        refine ⟨w.alloc (.cells (madeCells zero.cells (cn * z)) e), .slice (some ⟨w.heap.size, 0, none⟩) ln cn, .cells (madeCells zero.cells (cn * z)) e, (madeCells zero.cells (cn * z)).size, ?_, ⟨rfl, rfl, rfl⟩, ?_, ?_⟩
        · simp [execOp, ho, el, ec, hr]
        · refine .slice (a := ⟨nid, 0, some (2 * z + 1)⟩) (i := ⟨w.heap.size, 0, (madeCells zero.cells (cn * z)).size⟩) (sp := 2 * z + 1) (Upd.same _ _ _) rfl c1 (Nat.le_refl _) (fun _ => rfl) (fun _ => rfl) ?_
          rw [size_madeCells]; show 0 + cn * ((2 * z + 1) / 2) ≤ cn * z; rw [show (2 * z + 1) / 2 = z by omega]; omega
        · refine OR_rowOf (cs' := (madeCells zero.cells (cn * z)).toList) ?_ (List.prefix_refl _) (.inl rfl)
          have := VRs.zeros (ρ := Upd ρ nid ⟨w.heap.size, 0, (madeCells zero.cells (cn * z)).size⟩) hzz.2 (by omega) (cn * z)
          rw [c4] at this
          simpa [madeCells, c4] using this
      · simp at h
    · simp at h
  · simp at h

theorem info_of {e : TypeId} {z bs : Nat} {zero : Value} (hz : sizeO P e = some z) (hbs : bytesO P e = some bs) (hzero : zeroO P e = some zero) :
    ∃ i, P.info? e = some i ∧ i.size = z ∧ i.bytes = bs ∧ i.zero = some zero ∧ okZ zero = true := by
  simp only [sizeO] at hz; simp only [bytesO] at hbs
  cases hi : P.info? e with
  | none => rw [hi] at hz; simp at hz
  | some i =>
    rw [hi] at hz hbs; simp at hz hbs
    simp only [zeroO, hi] at hzero
    cases hz' : i.zero with
    | none => rw [hz'] at hzero; simp at hzero
    | some q => rw [hz'] at hzero; obtain ⟨h1, h2⟩ := opt_false hzero; simp at h2; subst h2; exact ⟨i, rfl, hz, hbs, hz', h1⟩

theorem foldl_set_size (l : List (Value × Nat)) (off : Nat) : ∀ (cs : Array Value), (l.foldl (fun cs x => cs.setIfInBounds (off + x.2) x.1) cs).size = cs.size := by
  induction l with
  | nil => intro cs; rfl
  | cons x l ih => intro cs; simp [ih]
theorem fill_size {place : Nat → Option (Nat × Nat)} : ∀ {l : List (Nat × Value)} {cs r : Array Value}, Instr.fill place cs l = some r → r.size = cs.size
  | [], cs, r, h => by simp [Instr.fill] at h; rw [h]
  | (i, v) :: l, cs, r, h => by
    simp only [Instr.fill] at h
    split at h
    · simp at h
    · split at h
      · simp at h
      · have := fill_size h
        rw [this, ← Array.foldl_toList, Array.toList_zipIdx]
        exact foldl_set_size _ _ _

theorem simBuildSlice {o : Oper} {t : TypeId} {len : Nat} {parts : Array (Nat × Operand)} {nid : Nat} {v : Value} {ob : AObj} (ho : o.op = .buildSlice t len parts) (h : execA P s o.op nid = some (v, ob))
    (ht : TR ρ s a.tmps) : SimA P ρ a o v ob nid := by
  rw [ho] at h; simp only [execA] at h
  split at h
  · rename_i e hd
    split at h
    · rename_i z zero vs hz hzero hvs
      obtain ⟨hcond, h⟩ := opt_false h
      simp only [Bool.and_eq_true, Nat.beq_eq] at hcond
      obtain ⟨⟨c1, c4⟩, c5⟩ := hcond
      replace c1 := Nat.le_of_ble_eq_true c1
      replace c5 := Nat.le_of_ble_eq_true c5
      split at h
      · rename_i cs hf
        simp only [Option.some.injEq, Prod.mk.injEq] at h
        obtain ⟨rfl, rfl⟩ := h
        obtain ⟨hzok, hzr⟩ := zeroO_run hzero
        have hzeros := VRs.zeros (ρ := ρ) hzok (by omega) (len * z)
        rw [c4] at hzeros
        obtain ⟨r', hf', hr'⟩ := fill_rel (ρ := ρ) (fun i => some (i * z, z)) _ _ _ _ ((Array.range (len * z)).map (zero.cells[· % zero.cells.size]!)) cs (ht.evs hvs)
          (by simpa [c4, Array.toList_map, Array.toList_range] using hzeros) hf
        have hparts : (parts.map fun (x : Nat × Operand) => (x.1, a.eval x.2)).toList = (parts.toList.map (·.1)).zip ((parts.toList.map (·.2)).map a.eval) := by
          simp [List.zip_map', List.map_map, Function.comp_def]
        have hlen : r'.size = len * z := by
          have h1 := hr'.length
          have h2 : cs.size = len * z := by
            have := fill_size hf
            simpa using this
          simpa [h2] using h1.symm
        intro w hn
        refine ⟨{ w with heap := w.heap.push (.cells r' e) }, .slice (some ⟨w.heap.size, 0, none⟩) len len, .cells r' e, r'.size, ?_, ⟨rfl, rfl, rfl⟩, ?_, ?_⟩
        · simp only [execOp, ho, Instr.buildSlice, Sem.run_bind, run_under hd, Result.andThen_ok, sizeO_run hz, hparts]
          rw [if_neg (by show ¬ (len * z > 2 ^ 24); omega)]
          by_cases h0 : len * z = 0
          · have e0 : ∀ f : Nat → Value, (Array.range 0).map f = #[] := fun f => by apply Array.ext' ; simp
            simp only [h0, e0, if_true, Sem.run_pure, Result.andThen_ok] at hf' ⊢
            rw [hf']
            simp [newRow]
          · simp only [h0, if_false, Sem.run_bind, hzr, Result.andThen_ok, Sem.run_pure, hf']
            simp [newRow]
        · refine .slice (a := ⟨nid, 0, some (2 * z + 1)⟩) (i := ⟨w.heap.size, 0, r'.size⟩) (sp := 2 * z + 1) (Upd.same _ _ _) rfl (Nat.le_refl _) (Nat.le_refl _) (fun _ => rfl) (fun _ => rfl) ?_
          show 0 + len * ((2 * z + 1) / 2) ≤ r'.size; rw [show (2 * z + 1) / 2 = z by omega, hlen]; omega
        · exact OR_rowOf (hr'.mono (Upd.sub _ hn)) (List.prefix_refl _) (.inl rfl)
      · simp at h
    · simp at h
  · simp at h

theorem heap_freeze_new (w : World) (arr : Array Value) (e : TypeId) (n : Nat) :
    (({ w with heap := w.heap.push (.cells arr e) } : World).freeze ⟨w.heap.size, arr.size, none⟩ (n + 1)).heap = w.heap.push (.cells arr e (arr.size, arr.size + (n + 1))) := by
  unfold World.freeze
  simp only [Nat.add_eq_zero_iff, Nat.succ_ne_zero, and_false, if_false]
  apply Array.ext
  · simp
  · intro i h1 h2
    simp only [Array.getElem_modify]
    by_cases hi : w.heap.size = i
    · subst hi; simp
    · simp only [hi, if_false]
      have : i < w.heap.size := by simp at h2; omega
      simp [Array.getElem_push, this]

theorem simConvA {o : Oper} {src dst : TypeId} {x : Operand} {nid : Nat} {v : Value} {ob : AObj} (ho : o.op = .convert src dst x) (h : execA P s o.op nid = some (v, ob))
    (ht : TR ρ s a.tmps) : SimA P ρ a o v ob nid := by
  rw [ho] at h; simp only [execA] at h
  split at h
  · rename_i e b hs hd hx
    split at h
    · rename_i hu hz
      obtain ⟨hcond, h⟩ := opt_false h
      replace hcond := Nat.le_of_ble_eq_true hcond
      simp only [Option.some.injEq, Prod.mk.injEq] at h
      obtain ⟨rfl, rfl⟩ := h
      have e1 := (ht.ev hx).string
      intro w hn
      let cap := (Question.appendCap b.size 0 e).cut (w.tape w.drawn (.appendCap b.size 0 e))
      have hcap : b.size ≤ cap := by simp only [cap, Question.cut]; omega
      let arr : Array Value := (b.data.map fun u => Value.int .u8 u.toNat) ++ Array.replicate (cap - b.size) (.int .u8 0)
      have hbs : b.data.size = b.size := rfl
      have harr : arr.size = cap := by simp only [arr, Array.size_append, Array.size_map, Array.size_replicate, hbs]; omega
      refine ⟨({ w.drew with heap := w.heap.push (.cells arr e) } : World).freeze ⟨w.heap.size, arr.size, none⟩ 1, .slice (some ⟨w.heap.size, 0, none⟩) b.size cap, .cells arr e (arr.size, arr.size + 1), arr.size, ?_, ?_, ?_, ?_⟩
      · have hconv : (Conv.stringToBytes e b).run P w = .ok (.slice (some ⟨w.heap.size, 0, none⟩) b.size cap) (({ w.drew with heap := w.heap.push (.cells arr e) } : World).freeze ⟨w.heap.size, arr.size, none⟩ 1) := by
          have hsh : (({ w.drew with heap := w.heap.push (.cells arr e) } : World).shape? w.heap.size) = some (e, arr.size) := by
            unfold World.shape?; simp only [Array.getElem?_push_size]
          unfold Conv.stringToBytes
          simp only [Sem.run_bind, run_choose, Question.forced, Bool.false_eq_true, if_false, Result.andThen_ok, newRow, run_newObj, Sem.run_pure, markStringish, run_shape]
          show Result.andThen (Sem.run P (match World.shape? ({ w.drew with heap := w.heap.push (.cells arr e) } : World) w.heap.size with
            | some (_, n) => freeze { block := w.heap.size, off := n } 1
            | _ => pure ()) ({ w.drew with heap := w.heap.push (.cells arr e) } : World)) _ = _
          rw [hsh]
          rfl
        simp [execOp, ho, e1, convert, run_under hs, run_under hd, run_under hu, hconv]
      · exact ⟨heap_freeze_new w.drew arr e 0, rfl, rfl⟩
      · refine .slice (a := ⟨nid, 0, some 2⟩) (i := ⟨w.heap.size, 0, arr.size⟩) (sp := 2) (Upd.same _ _ _) rfl (Nat.le_refl _) hcap (fun h => by simp at h) (fun _ => rfl) ?_
        show 0 + cap * (2 / 2) ≤ arr.size; omega
      · refine OR_rowOf (cs' := b.data.toList.map fun u => Value.int .u8 u.toNat) (VRs.atoms (List.all_eq_true.2 fun v hv => by obtain ⟨u, _, rfl⟩ := List.mem_map.1 hv; rfl)) ?_ (.inr (Nat.le_refl _))
        simp only [arr, Array.toList_append, Array.toList_map]
        exact List.prefix_append _ _
    · simp at h
  · simp at h

theorem simA {o : Oper} {nid : Nat} {v : Value} {ob : AObj} (h : execA P s o.op nid = some (v, ob)) (ht : TR ρ s a.tmps) : SimA P ρ a o v ob nid := by
  cases ho : o.op with
  | alloc e => exact simAlloc ho h
  | box e x => exact simBox ho h ht
  | buildSlice t l p => exact simBuildSlice ho h ht
  | makeMap t r => exact simMakeMap ho h ht
  | makeSlice t l c => exact simMakeSlice ho h ht
  | convert t u x => exact simConvA ho h ht
  | _ => rw [ho] at h; simp [execA] at h

end
end Go.Proofs.YtdocmpnofklaoaaGreatDoor.Ev

/- An evaluator for the model's code over an abstract heap (tries instead of blocks, no tape): its definitions. -/
import Derived.CallsIn
import Derived.OrdersIn
import Derived.LoopNIn
import Derived.RangeFuncIn
import Derived.KernelRfl
namespace Go.Proofs.YtdocmpnofklaoaaGreatDoor.Ev
open Go

/-! ### Tries -/

inductive T (α : Type) where
  | nil : T α
  | node (l : T α) (x : Option α) (r : T α) : T α
  | fn (f : Nat → Option α) : T α

namespace T
variable {α : Type}

def get : T α → Nat → Option α
  | .nil, _ => none
  | .node l x r, n => bif Nat.beq n 0 then x else bif Nat.beq (n % 2) 1 then get l (n / 2) else get r (n / 2 - 1)
  | .fn f, n => f n

/-- '.node', its part on the left (on the right) come to a form. -/
def lnode (t : T α) (x : Option α) (r : T α) : T α := match t with
  | .node a y b => .node (.node a y b) x r
  | .nil => .node .nil x r
  | .fn g => .node (.fn g) x r
def rnode (l : T α) (x : Option α) (t : T α) : T α := match t with
  | .node a y b => .node l x (.node a y b)
  | .nil => .node l x .nil
  | .fn g => .node l x (.fn g)
theorem lnode_eq (t : T α) (x : Option α) (r : T α) : lnode t x r = .node t x r := by cases t <;> rfl
theorem rnode_eq (l : T α) (x : Option α) (t : T α) : rnode l x t = .node l x t := by cases t <;> rfl

def set : Nat → T α → Nat → α → T α
  | 0, t, _, _ => t
  | _ + 1, .fn g, n, v => .fn fun m => bif Nat.beq m n then some v else g m
  | f + 1, .nil, n, v =>
    bif Nat.beq n 0 then .node .nil (some v) .nil
    else bif Nat.beq (n % 2) 1 then lnode (set f .nil (n / 2) v) none .nil
    else rnode .nil none (set f .nil (n / 2 - 1) v)
  | f + 1, .node l x r, n, v =>
    bif Nat.beq n 0 then .node l (some v) r
    else bif Nat.beq (n % 2) 1 then lnode (set f l (n / 2) v) x r
    else rnode l x (set f r (n / 2 - 1) v)

def put (t : T α) (n : Nat) (v : α) : T α := set (n + 1) t n v

def ofListFrom (t : T α) : Nat → List α → T α
  | _, [] => t
  | i, v :: vs => ofListFrom (t.put i v) (i + 1) vs

theorem get_node (l : T α) (x : Option α) (r : T α) (n : Nat) : (T.node l x r).get n = bif Nat.beq n 0 then x else bif Nat.beq (n % 2) 1 then get l (n / 2) else get r (n / 2 - 1) := rfl
theorem get_nil (n : Nat) : (T.nil : T α).get n = none := rfl
theorem set_nil (f : Nat) (n : Nat) (v : α) : set (f + 1) (.nil : T α) n v = set (f + 1) (.node .nil none .nil) n v := rfl
theorem get_nnn (n : Nat) : (T.node (.nil : T α) none .nil).get n = none := by
  rw [get_node]; cases Nat.beq n 0 <;> cases Nat.beq (n % 2) 1 <;> rfl
theorem beq0 {n : Nat} (h : n ≠ 0) : Nat.beq n 0 = false := by cases n with | zero => exact absurd rfl h | succ _ => rfl

theorem get_set : ∀ (f : Nat) (t : T α) (n : Nat) (v : α), n < f → ∀ m, (set f t n v).get m = if m = n then some v else t.get m := by
  intro f
  induction f with
  | zero => intro t n v h; omega
  | succ f ih =>
    intro t n v h m
    have hl : n ≠ 0 → n / 2 < f := by omega
    have hr : n ≠ 0 → n / 2 - 1 < f := by omega
    have main : ∀ (l : T α) (x : Option α) (r : T α), (set (f + 1) (.node l x r) n v).get m = if m = n then some v else (T.node l x r).get m := by
      intro l x r
      by_cases h0 : n = 0
      · subst h0
        simp only [set, Nat.beq, cond_true, get_node]
        by_cases hm : m = 0
        · subst hm; simp [Nat.beq]
        · simp only [beq0 hm, cond_false, hm, if_false]
      · simp only [set, beq0 h0, cond_false, lnode_eq, rnode_eq]
        cases hodd : Nat.beq (n % 2) 1 with
        | true =>
          have h1 : n % 2 = 1 := Nat.eq_of_beq_eq_true hodd
          have hg := ih l (n / 2) v (hl h0)
          simp only [cond_true]
          rw [get_node _ x r, get_node l x r]
          by_cases hm : m = 0
          · subst hm; simp [Nat.beq, Ne.symm h0]
          · simp only [beq0 hm, cond_false]
            cases hmo : Nat.beq (m % 2) 1 with
            | true =>
              have h2 : m % 2 = 1 := Nat.eq_of_beq_eq_true hmo
              simp only [cond_true, hg]
              by_cases e : m = n
              · subst e; simp
              · rw [if_neg e, if_neg (by omega)]
            | false =>
              have h2 : m % 2 ≠ 1 := Nat.ne_of_beq_eq_false hmo
              simp only [cond_false]
              rw [if_neg (by intro e; subst e; exact h2 h1)]
        | false =>
          have h1 : n % 2 ≠ 1 := Nat.ne_of_beq_eq_false hodd
          have hg := ih r (n / 2 - 1) v (hr h0)
          simp only [cond_false]
          rw [get_node l x _, get_node l x r]
          by_cases hm : m = 0
          · subst hm; simp [Nat.beq, Ne.symm h0]
          · simp only [beq0 hm, cond_false]
            cases hmo : Nat.beq (m % 2) 1 with
            | true =>
              have h2 : m % 2 = 1 := Nat.eq_of_beq_eq_true hmo
              simp only [cond_true]
              rw [if_neg (by intro e; subst e; exact h1 h2)]
            | false =>
              have h2 : m % 2 ≠ 1 := Nat.ne_of_beq_eq_false hmo
              simp only [cond_false, hg]
              by_cases e : m = n
              · subst e; simp
              · rw [if_neg e, if_neg (by omega)]
    cases t with
    | nil => rw [set_nil, main, get_nnn, get_nil]
    | node l x r => exact main l x r
    | fn g =>
      show (bif Nat.beq m n then some v else g m) = if m = n then some v else g m
      by_cases e : m = n
      · subst e; simp
      · have : Nat.beq m n = false := by
          cases hb : Nat.beq m n with
          | false => rfl
          | true => exact absurd (Nat.eq_of_beq_eq_true hb) e
        rw [this, if_neg e]; rfl

theorem get_put (t : T α) (n : Nat) (v : α) (m : Nat) : (t.put n v).get m = if m = n then some v else t.get m :=
  get_set (n + 1) t n v (Nat.lt_succ_self n) m

theorem get_ofListFrom : ∀ (vs : List α) (t : T α) (i m : Nat), (ofListFrom t i vs).get m = if i ≤ m ∧ m < i + vs.length then vs[m - i]? else t.get m
  | [], t, i, m => by simp [ofListFrom]; intro h1 h2; omega
  | v :: vs, t, i, m => by
    rw [ofListFrom, get_ofListFrom vs, get_put]
    by_cases h : i + 1 ≤ m ∧ m < i + 1 + vs.length
    · rw [if_pos h, if_pos (by simp; omega)]
      rw [show m - i = (m - (i + 1)) + 1 by omega]; rfl
    · rw [if_neg h]
      by_cases e : m = i
      · subst e; simp
      · rw [if_neg e, if_neg (by simp; omega)]
end T
end Go.Proofs.YtdocmpnofklaoaaGreatDoor.Ev

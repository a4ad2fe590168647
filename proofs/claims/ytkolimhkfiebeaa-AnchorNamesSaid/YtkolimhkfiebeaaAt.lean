/-
  The walk of shelf.at: a range over a function.
-/
import Derived.Test.YtkolimhkfiebeaaBack
import Derived.Test.YtkolimhkfiebeaaOwnB
namespace Go.Proofs.Ytkolimhkfiebeaa
open Go.RowKit Go.Shelf
attribute [local go_sem] Oper.semAt_some

/-! ### Plain -/
/-- What is said where entry x, the one with number j, stands. -/
def hitOf (x : Entry) (j : Nat) (s : Id) : Option (Int × Bool) := if x.id = s then some ((j : Int), true) else if idLess x.id s then some ((j : Int) + 1, false) else none
def atScan (s : Id) : List Entry → Int × Bool
  | [] => (0, false)
  | x :: r => match hitOf x r.length s with | some p => p | none => atScan s r
/-- Where a section's entry is, or would be. -/
def atOf (l : List Entry) (s : Id) : Int × Bool := atScan s l.reverse
theorem atScan_take {l : List Entry} {s : Id} {j : Nat} {x : Entry} (h : l[j]? = some x) : atScan s (l.take (j + 1)).reverse = match hitOf x j s with | some p => p | none => atScan s (l.take j).reverse := by
  have hj : j < l.length := (List.getElem?_eq_some_iff.1 h).1
  rw [take_snoc h, List.reverse_append, List.reverse_singleton, List.singleton_append, atScan, List.length_reverse, List.length_take, Nat.min_eq_left (by omega)]
theorem at_down {l : List Entry} {s : Id} (n : Nat) : n ≤ l.length → (∀ j x, l.length - n ≤ j → l[j]? = some x → hitOf x j s = none) → atOf l s = atScan s (l.take (l.length - n)).reverse := by
  induction n with
  | zero => intro _ _; unfold atOf; rw [Nat.sub_zero, List.take_length]
  | succ n ih =>
    intro hn h
    rw [ih (by omega) fun j x hj => h j x (by omega)]
    obtain ⟨x, hx⟩ := get_lt (show l.length - (n + 1) < l.length by omega)
    have := atScan_take (s := s) hx
    rw [show l.length - (n + 1) + 1 = l.length - n by omega] at this
    rw [this, h _ x (Nat.le_refl _) hx]
theorem at_none {l : List Entry} {s : Id} (h : ∀ j x, l[j]? = some x → hitOf x j s = none) : atOf l s = (0, false) := by
  rw [at_down l.length (Nat.le_refl _) fun j x _ => h j x, Nat.sub_self]
  rfl
theorem at_hit {l : List Entry} {s : Id} {k : Nat} {x : Entry} {p : Int × Bool} (hx : l[k]? = some x) (hp : hitOf x k s = some p) (h : ∀ j y, k < j → l[j]? = some y → hitOf y j s = none) : atOf l s = p := by
  have hk : k < l.length := (List.getElem?_eq_some_iff.1 hx).1
  rw [at_down (l.length - (k + 1)) (by omega) fun j y hj => h j y (by omega), show l.length - (l.length - (k + 1)) = k + 1 by omega, atScan_take hx, hp]

theorem Bl.others {w w' : World} (h : Bl w w') : KeepsOthers w w' := ⟨h.size, fun k _ hk _ => (h.block k (Array.getElem?_eq_some_iff.1 hk).1).trans hk⟩

end Go.Proofs.Ytkolimhkfiebeaa

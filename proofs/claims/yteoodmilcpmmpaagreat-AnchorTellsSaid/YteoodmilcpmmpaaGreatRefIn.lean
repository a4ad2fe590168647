/-
  References: In of layer 7; Spans, In of layer 8.
-/
import Derived.Test.YteoodmilcpmmpaaGreatLessB
import Derived.Test.YteoodmilcpmmpaaGreatBox
import Derived.Test.YteoodmilcpmmpaaGreatSpanB
namespace Go.Proofs.YteoodmilcpmmpaaGreat
open Go.RowKit

/-! ### In -/

def firstOf (l : List Times) (r : Int) : List Span := match l.find? (fun x => decide (x.r = r)) with
  | some x => x.s
  | none => []

theorem find_take_none {l : List Times} {k : Nat} {x : Times} {r : Int} (h : l[k]? = some x) (hno : ∀ y ∈ l.take k, y.r ≠ r) (hx : x.r = r) : l.find? (fun x => decide (x.r = r)) = some x := by
  rw [← List.take_append_drop k l, List.find?_append, List.find?_eq_none.2 (fun y hy => by simpa using hno y hy), drop_cons h, List.find?_cons]
  simp [hx]

def clockIn (l : List Times) (a : Id) : Bool := spansHave (firstOf l a.r) a.t

/-! ### Plain: the clocks -/
theorem tab_from (r : Int) : ∀ (l : List Times) (last : Int) (acc : List Span), clockFrom last l = true → l.foldl (fun acc x => if x.r = r then x.s else acc) acc = match l.find? (fun x => decide (x.r = r)) with | some x => x.s | none => acc
  | [], _, acc, _ => rfl
  | x :: l, last, acc, h => by
    simp only [clockFrom, Bool.and_eq_true, decide_eq_true_eq] at h
    rw [List.foldl_cons, List.find?_cons]
    by_cases hx : x.r = r
    · rw [if_pos hx, tab_from r l x.r x.s h.2]
      have hno : l.find? (fun y => decide (y.r = r)) = none := List.find?_eq_none.2 fun y hy => by
        have := clock_after l x.r h.2 y hy
        simp
        omega
      rw [hno]
      simp [hx]
    · rw [if_neg hx, tab_from r l x.r acc h.2]
      simp [hx]
where
  clock_after : ∀ (l : List Times) (last : Int), clockFrom last l = true → ∀ y ∈ l, last < y.r
    | [], _, _, y, hy => by cases hy
    | x :: l, last, h, y, hy => by
      simp only [clockFrom, Bool.and_eq_true, decide_eq_true_eq] at h
      rcases List.mem_cons.1 hy with rfl | hy
      · exact h.1.1.1.1
      · have := clock_after l x.r h.2 y hy
        omega

theorem tab_first {l : List Times} (h : clockMay l = true) (r : Int) : tabOf l r = firstOf l r := tab_from r l (-1) [] h

theorem first_may {l : List Times} (h : clockMay l = true) (r : Int) : spansMay (firstOf l r) = true := by
  unfold firstOf
  cases hf : l.find? (fun x => decide (x.r = r)) with
  | none => decide
  | some x => exact clockFrom_all _ (show clockFrom (-1) l = true from h) x (List.mem_of_find?_eq_some hf)

theorem clock_in {l : List Times} (h : clockMay l = true) (a : Id) : clockIn l a = clockHas l a := by
  unfold clockIn clockHas spanHasB
  rw [h, tab_first h, first_may h]
  rfl

end Go.Proofs.YteoodmilcpmmpaaGreat

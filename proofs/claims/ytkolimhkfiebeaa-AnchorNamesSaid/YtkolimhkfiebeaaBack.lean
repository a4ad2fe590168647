/-
  slices.Backward over entries: the contract of its function value.
-/
import Derived.Test.YtkolimhkfiebeaaOwnB
import Derived.RangeFuncNested
import Derived.RangeFuncBound
import Derived.RangeFuncCalls
import Derived.RangeFuncLeaves
import Derived.Shelf.Abstract
import Derived.Shelf.RegionOpen
import Derived.OwnWalkIn
import Derived.TacticsInMore
import Derived.LoopNIn
import Derived.LoopIn
namespace Go.Proofs.Ytkolimhkfiebeaa
open Go.RowKit Go.Shelf
attribute [local go_sem] Oper.semAt_some

/-- The numbers below n, the greatest first. -/
def rv (n : Nat) : List (Fin n) := (List.finRange n).reverse
theorem rv_length (n : Nat) : (rv n).length = n := by unfold rv; simp
theorem rv_get {n k : Nat} (h : k < n) : (rv n)[k]? = some ⟨n - 1 - k, by omega⟩ := by
  unfold rv
  rw [List.getElem?_reverse (by simpa using h), List.length_finRange, List.getElem?_eq_getElem (by simp; omega)]
  simp

end Go.Proofs.Ytkolimhkfiebeaa

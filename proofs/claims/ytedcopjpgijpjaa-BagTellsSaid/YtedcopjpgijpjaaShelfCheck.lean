/-
  The walk of shelf.Check.
-/
import Derived.Test.YtedcopjpgijpjaaEntry
namespace Go.Proofs.Ytedcopjpgijpjaa
open Go.RowKit

/-! ### Plain -/
def after (prev : Option Id) (s : Id) : Bool := match prev with | none => true | some p => idLess p s
def shelfFrom (prev : Option Id) : List Entry → Bool
  | [] => true
  | x :: l => entryMay x && after prev x.id && shelfFrom (some x.id) l
/-- May a shelf be? -/
def shelfMay (l : List Entry) : Bool := decide (l.length ≤ 65) && shelfFrom none l
def prevOf (l : List Entry) (k : Nat) : Option Id := if k = 0 then none else (l[k - 1]?).map (·.id)
theorem shelfFrom_bad1 {l rest : List Entry} {prev : Option Id} {k : Nat} {x : Entry} (h : shelfFrom none l = shelfFrom prev (l.drop k)) (hd : l.drop k = x :: rest) (hb : entryMay x = false) : shelfFrom none l = false := by
  rw [h, hd, shelfFrom, hb]; simp
theorem shelfFrom_bad2 {l rest : List Entry} {prev : Option Id} {k : Nat} {x : Entry} (h : shelfFrom none l = shelfFrom prev (l.drop k)) (hd : l.drop k = x :: rest) (hb : after prev x.id = false) : shelfFrom none l = false := by
  rw [h, hd, shelfFrom, hb]; simp
theorem shelfFrom_good {l rest : List Entry} {prev : Option Id} {k : Nat} {x : Entry} (h : shelfFrom none l = shelfFrom prev (l.drop k)) (hd : l.drop k = x :: rest) (h1 : entryMay x = true) (h2 : after prev x.id = true) : shelfFrom none l = shelfFrom (some x.id) rest := by
  rw [h, hd, shelfFrom, h1, h2]; simp
theorem prevOf_succ {l : List Entry} {k : Nat} {x : Entry} (hx : l[k]? = some x) : prevOf l (k + 1) = some x.id := by
  unfold prevOf
  rw [if_neg (by omega), Nat.add_sub_cancel, hx]; rfl

end Go.Proofs.Ytedcopjpgijpjaa

/-
  The walk of BagTells.
-/
import Derived.Test.YtkolimhkfiebeaaRefB
import Derived.Test.YtkolimhkfiebeaaSpoil11
namespace Go.Proofs.Ytkolimhkfiebeaa
open Go.RowKit

theorem sameSelf11 (l : List Op) {A B : Option Addr} {c d : Nat} {w : World} (hl : l.length ≤ maxLen) (hA : R cOp 0 w A l) (hB : R cOp 0 w B l) :
    Calls Try.prog 33 #[.slice A l.length c, .slice B l.length d] w fun e w' => e = .returned (.bool true) ∧ Bl w w' := by
  have h := refSame11 A B c d l l w hl hl hA hB
  rw [show same l l = true by unfold same; simp] at h
  exact h

end Go.Proofs.Ytkolimhkfiebeaa

/-
  The walk of ClockIs; what the references of layer 8 say: Check, Has, Count.
-/
import Derived.Test.YtkolimhkfiebeaaOfB
import Derived.Test.YtkolimhkfiebeaaEntry
import Derived.Test.YtkolimhkfiebeaaClockTells
namespace Go.Proofs.Ytkolimhkfiebeaa
open Go.RowKit

theorem ofL_len (l : List Id) : (ofL l).length ≤ 8 := by
  unfold ofL
  split
  · exact Nat.zero_le _
  · split
    · exact eachL_len _ 8
    · exact Nat.zero_le _

theorem clockIds_len (l : List Times) : (clockIds l).length ≤ 1024 := by
  unfold clockIds
  split
  · rename_i h
    split
    · rename_i h2
      have := clockAll_length l (clockFrom_all _ (show clockFrom (-1) l = true from h))
      omega
    · exact Nat.zero_le _
  · exact Nat.zero_le _

theorem sameIdsSelf (l : List Id) {A B : Option Addr} {c d : Nat} {w : World} (hl : l.length ≤ maxLen) (hA : R cId 0 w A l) (hB : R cId 0 w B l) :
    Calls Try.prog 31 #[.slice A l.length c, .slice B l.length d] w fun e w' => e = .returned (.bool true) ∧ Bl w w' := by
  have h := refSameIds A B c d l l w hl hl hA hB
  rw [show same l l = true by unfold same; simp] at h
  exact h

theorem clockSameSelf (l : List Times) {A B : Option Addr} {c d : Nat} {w : World} (hl : l.length ≤ maxLen) (hA : R cTimes 0 w A l) (hB : R cTimes 0 w B l) :
    Calls Try.prog 18 #[.slice A l.length c, .slice B l.length d] w fun e w' => e = .returned (.bool true) ∧ Bl w w' := by
  have h := clockSame A B c d l l w hl hl hA hB
  rw [show same l l = true by unfold same; simp] at h
  exact h

end Go.Proofs.Ytkolimhkfiebeaa

/-
  The walk of ClockTells, and of law 8's inner function spoil.
-/
import Derived.Test.YtkolimhkfiebeaaRefClk2
import Derived.Test.YtkolimhkfiebeaaSpoil07
namespace Go.Proofs.Ytkolimhkfiebeaa
open Go.RowKit

theorem R.timesF {lo : Nat} {w : World} {b off k : Nat} {l : List Times} {x : Times} (h : R cTimes lo w (some ⟨b, off, none⟩) l) (hk : l[k]? = some x) :
    ∃ A c, R cSpan lo w A x.s ∧ x.s.length ≤ c ∧ c ≤ maxLen ∧ w.cell? ⟨b, off + k * 2 + 1, none⟩ = some (.slice A x.s.length c) := by
  obtain ⟨h1, m, ⟨ho, A, c, a1, a2, rfl, hr⟩, ha⟩ := R.get h hk
  exact ⟨A, c, hr, a1, a2, (ha 1 _ rfl).1⟩

theorem sameSelf08 (l : List Times) {A B : Option Addr} {c d : Nat} {w : World} (hl : l.length ≤ maxLen) (hA : R cTimes 0 w A l) (hB : R cTimes 0 w B l) :
    Calls Try.prog 47 #[.slice A l.length c, .slice B l.length d] w fun e w' => e = .returned (.bool true) ∧ Bl w w' := by
  have h := refSame08 A B c d l l w hl hl hA hB
  rw [show same l l = true by unfold same; simp] at h
  exact h

theorem rcL_len (f : List Span → List Span → List Span) (a b : List Times) : (rcL f a b).length ≤ 8 := by
  unfold rcL
  split
  · split
    · exact eachL_len _ 8
    · exact Nat.zero_le _
  · exact Nat.zero_le _

theorem few.small {l : List Times} (h : few l) : smallC l := ⟨by have := h.1; omega, fun x hx => by have := h.2 x hx; omega⟩

end Go.Proofs.Ytkolimhkfiebeaa

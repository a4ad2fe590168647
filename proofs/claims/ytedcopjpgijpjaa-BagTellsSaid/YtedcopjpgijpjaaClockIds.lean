/-
  The walks of clock.Ids, and of the references All, Ids.
-/
import Derived.Test.YtedcopjpgijpjaaClockTwin
namespace Go.Proofs.Ytedcopjpgijpjaa
open Go.RowKit

/-! ### Plain -/
def idsN (r t : Int) : Nat → List Id
  | 0 => []
  | n + 1 => ⟨t, r⟩ :: idsN r (t + 1) n
/-- The stamps of a replica from time t to u. -/
def idsFrom (r t u : Int) : List Id := idsN r t (u + 1 - t).toNat
def spansIds (r : Int) : List Span → List Id
  | [] => []
  | x :: l => idsFrom r x.f x.t ++ spansIds r l
/-- All stamps of a clock. -/
def clockAll : List Times → List Id
  | [] => []
  | x :: l => spansIds x.r x.s ++ clockAll l
theorem idsFrom_cons {r t u : Int} (h : t ≤ u) : idsFrom r t u = ⟨t, r⟩ :: idsFrom r (t + 1) u := by
  unfold idsFrom
  rw [show (u + 1 - t).toNat = (u + 1 - (t + 1)).toNat + 1 by omega, idsN]
theorem idsFrom_nil {r t u : Int} (h : u < t) : idsFrom r t u = [] := by
  unfold idsFrom
  rw [show (u + 1 - t).toNat = 0 by omega]; rfl
theorem idsN_length (r t : Int) (n : Nat) : (idsN r t n).length = n := by
  induction n generalizing t with
  | zero => rfl
  | succ n ih => simp [idsN, ih]
theorem spansIds_length (r : Int) (l : List Span) : ∀ least, spansFrom least l = true → ((spansIds r l).length : Int) = spansMany l := by
  induction l with
  | nil => intro _ _; rfl
  | cons x l ih =>
    intro least h
    simp only [spansFrom, Bool.and_eq_true, decide_eq_true_eq] at h
    have := ih _ h.2
    simp only [spansIds, List.length_append, spansMany, idsFrom, idsN_length]
    omega
theorem spansMay_from {l : List Span} (h : spansMay l = true) : spansFrom 1 l = true := by
  unfold spansMay at h
  simp only [Bool.and_eq_true, decide_eq_true_eq] at h
  exact h.2
theorem clockAll_length (l : List Times) (h : allMay l) : ((clockAll l).length : Int) = clockMany l := by
  induction l with
  | nil => rfl
  | cons x l ih =>
    have h1 := spansIds_length x.r x.s 1 (spansMay_from (h x (by simp)))
    have h2 := ih (fun y hy => h y (by simp [hy]))
    simp only [clockAll, List.length_append, clockMany]
    omega
/-- clock.Ids: what it hands back, and the error. -/
def clockIdsErr (l : List Times) : Int := if clockMay l then (if clockMany l ≤ 1024 then 0 else 4) else 8
def clockIds (l : List Times) : List Id := if clockMay l then (if clockMany l ≤ 1024 then clockAll l else []) else []

theorem flatId : ∀ {w : World} {S : Nat → Prop} {x : Id} {cs : List Value}, cId.rd w S x cs → ∀ S', cId.rd w S' x cs := fun h _ => h
theorem Try.infoId : (Try.prog.info? 30).map (fun i => (i.zero, i.size, i.bytes)) = some (some (.agg #[.int .u32 0, .int .u8 0]), 2, 8) := by kernel_rfl

/-- What a call that hands back a new list, and a number, says. -/
def New2 {α : Type} (C : Codec α) (l : List α) (n : Int) (w : World) (e : Ending) (w' : World) : Prop := ∃ A c, e = .returned (.tuple #[.slice A l.length c, .int .i64 n]) ∧ l.length ≤ c ∧ c ≤ maxLen ∧ R C w.heap.size w' A l ∧ Bl w w'

end Go.Proofs.Ytedcopjpgijpjaa

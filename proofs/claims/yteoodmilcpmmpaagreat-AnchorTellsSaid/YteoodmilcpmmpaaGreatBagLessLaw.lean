/-
  The walk of BagLess.
-/
import Derived.Test.YteoodmilcpmmpaaGreatLessB
import Derived.Test.YteoodmilcpmmpaaGreatBagC
import Derived.Test.YteoodmilcpmmpaaGreatSpanB
namespace Go.Proofs.YteoodmilcpmmpaaGreat
open Go.RowKit

/-! ### Plain -/
theorem srt_uniq {l : List Op} (hs : Srt l) {x y : Op} (hx : x ∈ l) (hy : y ∈ l) (e : x.id = y.id) : x = y := by
  obtain ⟨i, hi⟩ := List.getElem?_of_mem hx
  obtain ⟨k, hk⟩ := List.getElem?_of_mem hy
  rcases Nat.lt_trichotomy i k with h1 | h1 | h1
  · have := hs.get hi hk h1
    rw [e, idLess_irr] at this
    cases this
  · subst h1
    rw [hi] at hk
    cases hk
    rfl
  · have := hs.get hk hi h1
    rw [e, idLess_irr] at this
    cases this
theorem hasId_iff {l : List Op} {s : Id} : hasId l s = true ↔ ∃ x ∈ l, x.id = s := by
  unfold hasId
  rw [List.any_eq_true]
  constructor
  · rintro ⟨x, hx, e⟩; exact ⟨x, hx, by simpa using e⟩
  · rintro ⟨x, hx, e⟩; exact ⟨x, hx, by simpa using e⟩
theorem less_may {l : List Op} (p : Op → Bool) (h : bagMay l = true) : bagMay (l.filter p) = true := by
  obtain ⟨h1, h2, h3⟩ := bagMay_parts h
  exact bagMay_of (Nat.le_trans (List.length_filter_le _ _) h1) (List.Pairwise.filter _ h2) fun x hx => h3 x ((List.mem_filter.1 hx).1)
theorem find_some11 {l : List Op} {s : Id} (h : findB11 l s = true) : findO l s ∈ l ∧ (findO l s).id = s := by
  have h1 := h
  unfold findB11 at h1
  rw [Bool.and_eq_true] at h1
  obtain ⟨x, hx, e⟩ := has_pos (bagMay_parts h1.1).2.1 h1.2
  unfold findO
  rw [if_pos h, hx]
  exact ⟨List.mem_of_getElem? hx, e⟩
/-- What BagLess says. -/
theorem less_law {l : List Op} {m : List Times} (s : Id) (h : lessN l m = 0) :
    bagMay (lessL l m) = true ∧ findB11 (lessL l m) s = (findB11 l s && !clockHas m s) ∧ (findB11 (lessL l m) s = true → eqOp (findO l s) (findO (lessL l m) s) = true) := by
  have hL : lessL l m = l.filter fun x => !clockHas m x.id := by unfold lessL; rw [if_pos h]
  have hm : bagMay l = true := by
    unfold lessN at h
    cases h1 : bagMay l
    · rw [h1] at h; cases h
    · rfl
  have hmL := less_may (fun x => !clockHas m x.id) hm
  rw [hL]
  refine ⟨hmL, ?_, fun hnow => ?_⟩
  · unfold findB11
    rw [hm, hmL, Bool.true_and, Bool.true_and, Bool.eq_iff_iff, Bool.and_eq_true, hasId_iff, hasId_iff]
    constructor
    · rintro ⟨x, hx, e⟩
      rw [List.mem_filter] at hx
      exact ⟨⟨x, hx.1, e⟩, by rw [← e]; exact hx.2⟩
    · rintro ⟨⟨x, hx, e⟩, hq⟩
      exact ⟨x, List.mem_filter.2 ⟨hx, by rw [e]; exact hq⟩, e⟩
  · obtain ⟨h1, h2⟩ := find_some11 hnow
    have hfl : findB11 l s = true := by
      unfold findB11
      rw [hm, Bool.true_and, hasId_iff]
      exact ⟨_, (List.mem_filter.1 h1).1, h2⟩
    obtain ⟨h3, h4⟩ := find_some11 hfl
    unfold eqOp
    rw [decide_eq_true_eq]
    exact srt_uniq (bagMay_parts hm).2.1 h3 ((List.mem_filter.1 h1).1) (by rw [h4, h2])

theorem findO_ok {l : List Op} {s : Id} (h : ∀ x ∈ l, x.ok) : (findO l s).ok := by
  have hz : zeroOp.ok := by unfold zeroOp Op.ok Id.ok u8ok i64ok; decide
  cases hb : findB11 l s
  · unfold findO
    rw [hb]
    exact hz
  · exact h _ (find_some11 hb).1
theorem R.oks {w : World} {A : Option Addr} {l : List Op} {lo : Nat} (h : R cOp lo w A l) : ∀ x ∈ l, x.ok := by
  intro x hx
  obtain ⟨k, hk⟩ := List.getElem?_of_mem hx
  obtain ⟨b, off, rfl, _, _⟩ := h.addr (by have := (List.getElem?_eq_some_iff.1 hk).1; omega)
  exact (h.op hk).2.1

end Go.Proofs.YteoodmilcpmmpaaGreat

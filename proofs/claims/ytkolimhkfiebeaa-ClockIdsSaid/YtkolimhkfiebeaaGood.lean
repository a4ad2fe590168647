/-
  Plain: what span.Join, span.Less answer, as sets of times; the same of clocks.
-/
import Derived.Test.YtkolimhkfiebeaaOfA
namespace Go.Proofs.Ytkolimhkfiebeaa
open Go.RowKit

/-- What span.set answers, if both may be and are not long. -/
structure Good (want : Bool → Bool → Bool) (a b L : List Span) : Prop where
  n : setN want a b = 0
  l : setL want a b = L
  may : spansMay L = true
  can : Can 1 L
  top : ∀ x ∈ L, x.t ≤ 1073741824
  has : ∀ u, spansHave L u = want (spansHave a u) (spansHave b u)
  len : L.length ≤ a.length + b.length

theorem set_good {want : Bool → Bool → Bool} (hw : want false false = false) {a b : List Span} (ha : spansMay a = true) (hb : spansMay b = true) (hl : a.length + b.length ≤ 1024) (hs : ∀ p q, want p q = true → p = true ∨ q = true) : Good want a b (setF want a b) := by
  obtain ⟨a1, a2, _⟩ := may_can ha
  obtain ⟨b1, b2, _⟩ := may_can hb
  obtain ⟨k1, k2⟩ := setF_ok want hw a1 b1
  have hlen := setF_len want a b
  have ht := top_or k1 (fun u hu => hs _ _ ((k2 u).symm.trans hu)) a2 b2
  have hn : setN want a b = 0 := by unfold setN; rw [ha, hb]; simp; omega
  exact ⟨hn, by unfold setL; rw [if_pos hn], may_of k1 ht (by omega), k1, ht, k2, hlen⟩

theorem set_bad (want : Bool → Bool → Bool) {a b : List Span} (h : (spansMay a && spansMay b) = false) : setN want a b = 8 ∧ setL want a b = [] := by
  have hn : setN want a b = 8 := by unfold setN; rw [h]; rfl
  exact ⟨hn, by unfold setL; rw [hn]; rfl⟩

theorem or_sub : ∀ p q, orB p q = true → p = true ∨ q = true := by decide

theorem less_sub : ∀ p q, lessB p q = true → p = true ∨ q = true := by decide

theorem count_le (l : List Span) : 0 ≤ spansCount l ∧ spansCount l ≤ 1099511627776 := by
  unfold spansCount
  split
  · rename_i h
    obtain ⟨h1, _, h3⟩ := may_can h
    have hf : spansFrom 1 l = true := by unfold spansMay at h; rw [Bool.and_eq_true] at h; exact h.2
    obtain ⟨k1, k2⟩ := spansMany_le l 1 (by omega) hf
    omega
  · omega

theorem count_meas {l : List Span} (h : spansMay l = true) : spansCount l = meas (spansHave l) 1073741825 := by
  obtain ⟨h1, h2, _⟩ := may_can h
  unfold spansCount
  rw [if_pos h]
  exact many_meas h1 (by omega) fun x hx => by have := h2 x hx; omega

theorem Good.is {want : Bool → Bool → Bool} {a b L M : List Span} (h : Good want a b L) (hM : Can 1 M) (_hl : M.length ≤ a.length + b.length) (e : ∀ u, spansHave M u = want (spansHave a u) (spansHave b u)) : Good want a b M := by
  have : L = M := h.can.ext hM fun u => by rw [h.has, e]
  exact this ▸ h

/-! ### Clocks -/

theorem eachN_none {Ns : Nat → Int} : ∀ k, (∀ r, r < k → Ns r = 0) → eachN Ns k = 0
  | 0, _ => rfl
  | k + 1, h => by
    unfold eachN
    rw [eachN_none k fun r hr => h r (by omega), if_pos rfl]
    exact h k (by omega)

/-- What clock.each answers with span's sets, if both may be and are not long. -/
structure CGood (want : Bool → Bool → Bool) (a b L : List Times) : Prop where
  n : cSetN want a b = 0
  l : cSetL want a b = L
  may : clockMay L = true
  fit : ∀ r : Nat, r < 8 → Good want (firstOf a r) (firstOf b r) (firstOf L r)
  len : L.length ≤ 8

theorem cset_good {want : Bool → Bool → Bool} (hw : want false false = false) {a b : List Times} (ha : clockMay a = true) (hb : clockMay b = true) (hl : ∀ r : Nat, r < 8 → (firstOf a r).length + (firstOf b r).length ≤ 1024) (hs : ∀ p q, want p q = true → p = true ∨ q = true) :
    CGood want a b (cSetL want a b) := by
  have hg : ∀ r : Nat, r < 8 → Good want (tabOf a r) (tabOf b r) (setF want (tabOf a r) (tabOf b r)) := fun r hr => by
    rw [tab_first ha, tab_first hb]
    exact set_good hw (first_may ha r) (first_may hb r) (hl r hr) hs
  have hn : eachN (fun r => setN want (tabOf a r) (tabOf b r)) 8 = 0 := eachN_none 8 fun r hr => (hg r hr).n
  have hL : cSetL want a b = eachL (fun r => setL want (tabOf a r) (tabOf b r)) 8 := by
    unfold cSetL outL
    rw [ha, hb, hn]
    rfl
  rw [hL]
  refine ⟨by unfold cSetN; rw [ha, hb]; exact hn, hL, each_may fun r hr => by rw [(hg r hr).l]; exact (hg r hr).may, fun r hr => ?_, eachL_len _ 8⟩
  rw [first_each, if_pos hr, ← tab_first ha, ← tab_first hb]
  have h := hg r hr
  rw [← h.l] at h
  exact h

theorem cset_bad (want : Bool → Bool → Bool) {a b : List Times} (h : (clockMay a && clockMay b) = false) : cSetN want a b = 8 ∧ cSetL want a b = [] := by
  unfold cSetN cSetL
  rw [h]
  exact ⟨rfl, rfl⟩

theorem first_far {l : List Times} (h : clockMay l = true) {r : Int} (hr : ¬ r < 8) : firstOf l r = [] :=
  first_none fun y hy => by
    have := (from_low (last := -1) h y hy).2.1
    omega

theorem has_first {l : List Times} (h : clockMay l = true) (x : Id) : clockHas l x = spansHave (firstOf l x.r) x.t := (clock_in h x).symm

theorem CGood.has {want : Bool → Bool → Bool} (hw : want false false = false) {a b L : List Times} (h : CGood want a b L) (ha : clockMay a = true) (hb : clockMay b = true) (x : Id) (hx : 0 ≤ x.r) : clockHas L x = want (clockHas a x) (clockHas b x) := by
  rw [has_first h.may, has_first ha, has_first hb]
  by_cases hr : x.r < 8
  · obtain ⟨r, hr2⟩ : ∃ r : Nat, x.r = r := ⟨x.r.toNat, by omega⟩
    rw [hr2]
    exact (h.fit r (by omega)).has x.t
  · rw [first_far h.may hr, first_far ha hr, first_far hb hr]
    exact hw.symm

theorem has_one {x y : Id} (hy : idMay y = true) (hyo : y.ok) : clockHas (oneT y) x = decide (x = y) := by
  rw [has_first ((one_may hyo).trans hy)]
  unfold firstOf oneT
  rw [List.find?_cons]
  obtain ⟨xt, xr⟩ := x
  obtain ⟨yt, yr⟩ := y
  dsimp only
  by_cases e : yr = xr
  · subst e
    simp only [decide_true]
    rw [have_one, Bool.eq_iff_iff, inX_iff, decide_eq_true_eq]
    constructor
    · rintro ⟨h1, h2⟩
      dsimp only at h1 h2
      rw [show xt = yt by omega]
    · intro h
      injection h with h _
      subst h
      exact ⟨Int.le_refl _, Int.le_refl _⟩
  · simp only [e, decide_false, List.find?_nil]
    rw [have_nil]
    have : (⟨xt, xr⟩ : Id) ≠ ⟨yt, yr⟩ := fun h => by
      injection h with _ h
      exact e h.symm
    exact (decide_eq_false this).symm

theorem first_le {l : List Times} {n : Nat} (h : ∀ x ∈ l, x.s.length ≤ n) (r : Int) : (firstOf l r).length ≤ n := by
  unfold firstOf
  cases hf : l.find? (fun x => decide (x.r = r)) with
  | none => exact Nat.zero_le _
  | some x => exact h x (List.mem_of_find?_eq_some hf)

theorem first_one (x : Id) (r : Int) : (firstOf (oneT x) r).length ≤ 1 := first_le (l := oneT x) (fun y hy => by
  unfold oneT at hy
  rw [List.mem_singleton] at hy
  subst hy
  exact Nat.le_refl _) r
end Go.Proofs.Ytkolimhkfiebeaa

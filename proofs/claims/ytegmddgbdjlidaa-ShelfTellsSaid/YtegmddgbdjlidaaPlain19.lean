/-
  The plain law of shelves: the document's lists are the program's.
-/
import Derived.Test.YtegmddgbdjlidaaDrop
namespace Go.Proofs.Ytegmddgbdjlidaa
open Go.RowKit

theorem idLess_tri {a b : Id} (h : a ≠ b) (k : idLess a b = false) : idLess b a = true := by
  have : ¬ (a.t = b.t ∧ a.r = b.r) := fun e => h (by obtain ⟨t, r⟩ := a; obtain ⟨t', r'⟩ := b; simp at e; rw [e.1, e.2])
  unfold idLess at *
  simp only [Bool.or_eq_true, Bool.and_eq_true, Bool.or_eq_false_iff, Bool.and_eq_false_iff, decide_eq_true_eq, decide_eq_false_iff_not] at *
  omega
theorem idLess_ne {a b : Id} (h : idLess a b = true) : a ≠ b := fun e => by rw [e, idLess_irrefl] at h; cases h

/-- One behind the other. -/
def Sorted (l : List Entry) : Prop := l.Pairwise fun x y => idLess x.id y.id = true
theorem may_sorted {l : List Entry} (h : shelfMay l = true) : Sorted l := by
  unfold Sorted
  rw [List.pairwise_iff_getElem]
  intro i j hi hj hij
  exact may_less h i j _ _ hij (List.getElem?_eq_getElem hi) (List.getElem?_eq_getElem hj)
theorem from_of {l : List Entry} : ∀ {prev : Option Id}, (∀ x ∈ l, entryMay x = true) → Sorted l → (∀ p, prev = some p → ∀ x ∈ l, idLess p x.id = true) → shelfFrom prev l = true := by
  induction l with
  | nil => intro _ _ _ _; rfl
  | cons x l ih =>
    intro prev h1 h2 h3
    unfold Sorted at h2
    rw [List.pairwise_cons] at h2
    rw [shelfFrom, h1 x (by simp), ih (fun y hy => h1 y (by simp [hy])) h2.2 (fun p hp y hy => by cases hp; exact h2.1 y hy)]
    cases prev with
    | none => rfl
    | some p => show (true && idLess p x.id && true) = true; rw [h3 p rfl x (by simp)]; rfl
theorem may_of {l : List Entry} (h0 : l.length ≤ 65) (h1 : ∀ x ∈ l, entryMay x = true) (h2 : Sorted l) : shelfMay l = true := by
  unfold shelfMay
  rw [decide_eq_true h0, from_of h1 h2 (fun p hp => by cases hp)]
  rfl

/-- Where a stamp stands in what is sorted. -/
theorem at_split (s : Id) : ∀ (n : Nat) (l : List Entry), l.length = n → Sorted l → ∃ k : Nat, k ≤ l.length ∧ (atOf l s).1 = k ∧ (∀ z ∈ l.take k, idLess z.id s = true) ∧ ((atOf l s).2 = true → ∃ z, l[k]? = some z ∧ z.id = s ∧ ∀ u ∈ l.drop (k + 1), idLess s u.id = true) ∧ ((atOf l s).2 = false → ∀ z ∈ l.drop k, idLess s z.id = true) := by
  intro n
  induction n with
  | zero =>
    intro l hl _
    obtain rfl := List.length_eq_zero_iff.1 hl
    exact ⟨0, Nat.le_refl _, rfl, fun z hz => by simp at hz, fun h => (by cases h), fun _ z hz => by simp at hz⟩
  | succ n ih =>
    intro l hl hs
    have hne : l ≠ [] := fun e => by subst e; cases hl
    obtain ⟨l', y, rfl⟩ : ∃ l' y, l = l' ++ [y] := ⟨l.dropLast, l.getLast hne, (List.dropLast_concat_getLast hne).symm⟩
    have hl' : l'.length = n := by simpa using hl
    unfold Sorted at hs
    rw [List.pairwise_append] at hs
    obtain ⟨hs1, -, hs2⟩ := hs
    have hat : atOf (l' ++ [y]) s = match hitOf y l'.length s with | some p => p | none => atOf l' s := by
      unfold atOf
      rw [List.reverse_append, List.reverse_singleton, List.singleton_append, atScan, List.length_reverse]
      rfl
    have hy : ∀ z ∈ l', idLess z.id y.id = true := fun z hz => hs2 z hz y (by simp)
    unfold hitOf at hat
    by_cases h1 : y.id = s
    · rw [if_pos h1] at hat
      replace hat : atOf (l' ++ [y]) s = ((l'.length : Int), true) := hat
      rw [hat]
      refine ⟨l'.length, by simp, rfl, fun z hz => ?_, fun _ => ⟨y, by simp, h1, fun u hu => by simp at hu⟩, fun h => by cases h⟩
      rw [List.take_left] at hz
      exact h1 ▸ hy z hz
    · rw [if_neg h1] at hat
      cases h2 : idLess y.id s
      · rw [h2] at hat
        replace hat : atOf (l' ++ [y]) s = atOf l' s := hat
        have hys := idLess_tri h1 h2
        obtain ⟨k, k0, k1, k2, k3, k4⟩ := ih l' hl' hs1
        rw [hat]
        refine ⟨k, by simp; omega, k1, fun z hz => ?_, fun h => ?_, fun h z hz => ?_⟩
        · rw [List.take_append_of_le_length k0] at hz
          exact k2 z hz
        · obtain ⟨z, z1, z2, z3⟩ := k3 h
          have hk : k < l'.length := (List.getElem?_eq_some_iff.1 z1).1
          refine ⟨z, by rw [List.getElem?_append_left hk]; exact z1, z2, fun u hu => ?_⟩
          rw [List.drop_append_of_le_length hk] at hu
          rcases List.mem_append.1 hu with hu | hu
          · exact z3 u hu
          · simp at hu; subst hu; exact hys
        · rw [List.drop_append_of_le_length k0] at hz
          rcases List.mem_append.1 hz with hz | hz
          · exact k4 h z hz
          · simp at hz; subst hz; exact hys
      · rw [h2] at hat
        replace hat : atOf (l' ++ [y]) s = ((l'.length : Int) + 1, false) := hat
        rw [hat]
        refine ⟨l'.length + 1, by simp, by simp, fun z hz => ?_, fun h => (by cases h), fun _ z hz => ?_⟩
        · rw [List.take_of_length_le (by simp)] at hz
          rcases List.mem_append.1 hz with hz | hz
          · exact idLess_trans (hy z hz) h2
          · simp at hz; subst hz; exact h2
        · rw [List.drop_of_length_le (by simp)] at hz
          cases hz

/-- The document's: without a section's; with an entry. -/
def outL (l : List Entry) (s : Id) : List Entry := l.filter fun x => !decide (x.id = s)
def withL (l : List Entry) (x : Entry) : List Entry := (outL l x.id).filter (fun y => idLess y.id x.id) ++ x :: (outL l x.id).filter (fun y => idLess x.id y.id)

theorem out_low {l : List Entry} {s : Id} (h : ∀ z ∈ l, idLess z.id s = true) : outL l s = l := by
  unfold outL
  rw [List.filter_eq_self]
  intro z hz
  have := idLess_ne (h z hz)
  simpa using this
theorem out_high {l : List Entry} {s : Id} (h : ∀ z ∈ l, idLess s z.id = true) : outL l s = l := by
  unfold outL
  rw [List.filter_eq_self]
  intro z hz
  have := idLess_ne (h z hz)
  have h2 : ¬ z.id = s := fun e => this e.symm
  simpa using h2
theorem out_app (a b : List Entry) (s : Id) : outL (a ++ b) s = outL a s ++ outL b s := by unfold outL; rw [List.filter_append]
theorem low_low {l : List Entry} {s : Id} (h : ∀ z ∈ l, idLess z.id s = true) : l.filter (fun y => idLess y.id s) = l ∧ l.filter (fun y => idLess s y.id) = [] := by
  constructor
  · rw [List.filter_eq_self]; exact h
  · rw [List.filter_eq_nil_iff]; intro z hz; rw [idLess_asymm (h z hz)]; simp
theorem high_high {l : List Entry} {s : Id} (h : ∀ z ∈ l, idLess s z.id = true) : l.filter (fun y => idLess y.id s) = [] ∧ l.filter (fun y => idLess s y.id) = l := by
  constructor
  · rw [List.filter_eq_nil_iff]; intro z hz; rw [idLess_asymm (h z hz)]; simp
  · rw [List.filter_eq_self]; exact h

/-- A shelf in three parts. -/
theorem at_parts {l : List Entry} (hs : Sorted l) (s : Id) : ∃ (a b : List Entry), (∀ z ∈ a, idLess z.id s = true) ∧ (∀ z ∈ b, idLess s z.id = true) ∧ (atOf l s).1 = (a.length : Int) ∧ (((atOf l s).2 = true ∧ ∃ y, y.id = s ∧ l = a ++ y :: b) ∨ ((atOf l s).2 = false ∧ l = a ++ b)) := by
  obtain ⟨k, k0, k1, k2, k3, k4⟩ := at_split s _ l rfl hs
  have hlen : (l.take k).length = k := by rw [List.length_take, Nat.min_eq_left k0]
  cases hb : (atOf l s).2
  · exact ⟨l.take k, l.drop k, k2, k4 hb, by rw [hlen]; exact k1, .inr ⟨rfl, (List.take_append_drop k l).symm⟩⟩
  · obtain ⟨z, z1, z2, z3⟩ := k3 hb
    exact ⟨l.take k, l.drop (k + 1), k2, z3, by rw [hlen]; exact k1, .inl ⟨rfl, z, z2, by rw [← drop_cons z1, List.take_append_drop]⟩⟩

theorem out_mid {a b : List Entry} {y : Entry} {s : Id} (ha : ∀ z ∈ a, idLess z.id s = true) (hb : ∀ z ∈ b, idLess s z.id = true) (hy : y.id = s) : outL (a ++ y :: b) s = a ++ b := by
  rw [out_app, out_low ha]
  congr 1
  have : outL (y :: b) s = outL b s := by unfold outL; rw [List.filter_cons, if_neg (by simp [hy])]
  rw [this, out_high hb]
theorem out_two {a b : List Entry} {s : Id} (ha : ∀ z ∈ a, idLess z.id s = true) (hb : ∀ z ∈ b, idLess s z.id = true) : outL (a ++ b) s = a ++ b := by
  rw [out_app, out_low ha, out_high hb]
theorem with_of {l a b : List Entry} {x : Entry} (ha : ∀ z ∈ a, idLess z.id x.id = true) (hb : ∀ z ∈ b, idLess x.id z.id = true) (h : outL l x.id = a ++ b) : withL l x = a ++ x :: b := by
  unfold withL
  rw [h, List.filter_append, List.filter_append, (low_low ha).1, (low_low ha).2, (high_high hb).1, (high_high hb).2, List.append_nil, List.nil_append]

/-- Put's list is the document's. -/
theorem put_with {l : List Entry} {x : Entry} (h : putN l x = 0) : putL l x = withL l x := by
  have hm : shelfMay l = true := by
    cases hq : shelfMay l
    · unfold putN at h; rw [hq] at h; cases h
    · rfl
  obtain ⟨a, b, ha, hb, h1, ⟨h2, y, hy, h3⟩ | ⟨h2, h3⟩⟩ := at_parts (may_sorted hm) x.id
  · unfold putL
    rw [if_pos h, h2, if_pos rfl, h1, Int.toNat_natCast, with_of ha hb (by rw [h3, out_mid ha hb hy]), h3, List.set_append_right _ _ (Nat.le_refl _), Nat.sub_self]
    rfl
  · unfold putL
    rw [if_pos h, h2, if_neg (by simp), h1, Int.toNat_natCast, with_of ha hb (by rw [h3, out_two ha hb]), h3, List.take_left, List.drop_left]
theorem with_len {l : List Entry} {x : Entry} (hm : shelfMay l = true) : (withL l x).length = if (atOf l x.id).2 then l.length else l.length + 1 := by
  obtain ⟨a, b, ha, hb, h1, ⟨h2, y, hy, h3⟩ | ⟨h2, h3⟩⟩ := at_parts (may_sorted hm) x.id
  · rw [with_of ha hb (by rw [h3, out_mid ha hb hy]), h2, if_pos rfl, h3]; simp
  · rw [with_of ha hb (by rw [h3, out_two ha hb]), h2, if_neg (by simp), h3]; simp; omega
/-- .. and its errors. -/
theorem put_n {l : List Entry} {x : Entry} : putN l x = if shelfMay l && entryMay x then (if 65 < (withL l x).length then 9 else 0) else 8 := by
  unfold putN
  cases hm : shelfMay l
  · rfl
  cases hx : entryMay x
  · rfl
  show (if (atOf l x.id).2 then (0 : Int) else if l.length = 65 then 9 else 0) = if 65 < (withL l x).length then 9 else 0
  have h65 := (may_from hm).1
  rw [with_len hm]
  cases hb : (atOf l x.id).2
  · simp only [Bool.false_eq_true, if_false]
    by_cases h : l.length = 65
    · rw [if_pos h, if_pos (by omega)]
    · rw [if_neg h, if_neg (by omega)]
  · simp only [if_true]
    rw [if_neg (by omega)]
theorem ent_at {l : List Entry} {s : Id} (hm : shelfMay l = true) : (atOf l s).2 = (entOf l s).isSome := by
  cases he : entOf l s with
  | none => rw [at_false he]; rfl
  | some x =>
    obtain ⟨k, hk, e⟩ := ent_some he
    rw [at_found hm hk e]; rfl
/-- Drop's list is the document's. -/
theorem drop_out {l : List Entry} {s : Id} (h : dropN l s = 0) : dropL l s = outL l s := by
  have hm : shelfMay l = true := by
    cases hq : shelfMay l
    · unfold dropN at h; rw [hq] at h; cases h
    · rfl
  have hb2 : (atOf l s).2 = true := by
    cases hq : (atOf l s).2
    · unfold dropN at h; rw [hm, hq] at h; cases h
    · rfl
  obtain ⟨a, b, ha, hb, h1, ⟨h2, y, hy, h3⟩ | ⟨h2, h3⟩⟩ := at_parts (may_sorted hm) s
  · unfold dropL
    rw [if_pos h, h1, Int.toNat_natCast]
    rw [h3, out_mid ha hb hy, List.take_left]
    congr 1
    rw [show a ++ y :: b = (a ++ [y]) ++ b by simp, show a.length + 1 = (a ++ [y]).length by simp, List.drop_left]
  · rw [hb2] at h2; cases h2
theorem drop_n {l : List Entry} {s : Id} : dropN l s = if shelfMay l then (if (entOf l s).isSome then 0 else 190) else 8 := by
  unfold dropN
  cases hm : shelfMay l
  · rfl
  rw [ent_at hm]

/-! ### What was put is found -/
theorem with_entry {l : List Entry} {x y : Entry} (h : y ∈ withL l x) : y = x ∨ y ∈ l := by
  unfold withL at h
  rcases List.mem_append.1 h with h | h
  · exact .inr ((List.mem_filter.1 (List.mem_filter.1 h).1).1)
  · rcases List.mem_cons.1 h with h | h
    · exact .inl h
    · exact .inr ((List.mem_filter.1 (List.mem_filter.1 h).1).1)
theorem out_entry {l : List Entry} {s : Id} {y : Entry} (h : y ∈ outL l s) : y ∈ l := (List.mem_filter.1 h).1
theorem sorted_out {l : List Entry} (s : Id) (h : Sorted l) : Sorted (outL l s) := List.Pairwise.filter _ h
theorem may_out {l : List Entry} (s : Id) (h : shelfMay l = true) : shelfMay (outL l s) = true :=
  may_of (Nat.le_trans (List.length_filter_le _ _) (may_from h).1) (fun x hx => may_entry h x (out_entry hx)) (sorted_out s (may_sorted h))
theorem sorted_with {l : List Entry} {x : Entry} (h : Sorted l) : Sorted (withL l x) := by
  unfold withL Sorted
  have h1 := sorted_out x.id h
  rw [List.pairwise_append, List.pairwise_cons]
  refine ⟨List.Pairwise.filter _ h1, ⟨fun y hy => (List.mem_filter.1 hy).2, List.Pairwise.filter _ h1⟩, fun a ha b hb => ?_⟩
  have ka := (List.mem_filter.1 ha).2
  rcases List.mem_cons.1 hb with rfl | hb
  · exact ka
  · exact idLess_trans ka (List.mem_filter.1 hb).2
theorem put_may {l : List Entry} {x : Entry} (h : putN l x = 0) : shelfMay l = true ∧ entryMay x = true ∧ shelfMay (withL l x) = true := by
  rw [put_n] at h
  cases hm : shelfMay l
  · rw [hm] at h; cases h
  cases hx : entryMay x
  · rw [hm, hx] at h; cases h
  refine ⟨rfl, rfl, may_of ?_ (fun y hy => ?_) (sorted_with (may_sorted hm))⟩
  · rw [hm, hx] at h
    replace h : (if 65 < (withL l x).length then (9 : Int) else 0) = 0 := h
    by_cases hq : 65 < (withL l x).length
    · rw [if_pos hq] at h; cases h
    · omega
  · rcases with_entry hy with rfl | hy
    · exact hx
    · exact may_entry hm y hy
theorem find_parts {a b : List Entry} {x : Entry} {s : Id} (h : x.id ≠ s) : entOf (a ++ x :: b) s = entOf (a ++ b) s := by
  unfold entOf
  rw [List.find?_append, List.find?_append, List.find?_cons, decide_eq_false h]
theorem ent_with {l : List Entry} {x : Entry} (hm : shelfMay l = true) (s : Id) : entOf (withL l x) s = if s = x.id then some x else entOf l s := by
  obtain ⟨a, b, ha, hb, h1, h⟩ := at_parts (may_sorted hm) x.id
  have hw : withL l x = a ++ x :: b := by
    rcases h with ⟨h2, y, hy, h3⟩ | ⟨h2, h3⟩
    · exact with_of ha hb (by rw [h3, out_mid ha hb hy])
    · exact with_of ha hb (by rw [h3, out_two ha hb])
  rw [hw]
  by_cases hs : s = x.id
  · rw [if_pos hs]
    subst hs
    unfold entOf
    rw [List.find?_append, List.find?_eq_none.2 (fun z hz => by simp [idLess_ne (ha z hz)]), Option.none_or, List.find?_cons, decide_eq_true rfl]
  · rw [if_neg hs, find_parts (fun e => hs e.symm)]
    rcases h with ⟨h2, y, hy, h3⟩ | ⟨h2, h3⟩
    · rw [h3, find_parts (fun e => hs (by rw [← e, hy]))]
    · rw [h3]
theorem out_with {l : List Entry} {x : Entry} (hm : shelfMay l = true) : outL (withL l x) x.id = outL l x.id ∧ (outL l x.id).length + 1 = (withL l x).length := by
  obtain ⟨a, b, ha, hb, h1, ⟨h2, y, hy, h3⟩ | ⟨h2, h3⟩⟩ := at_parts (may_sorted hm) x.id
  · have h4 : outL l x.id = a ++ b := by rw [h3, out_mid ha hb hy]
    rw [with_of ha hb h4, h4, out_mid ha hb rfl]
    exact ⟨rfl, by simp; omega⟩
  · have h4 : outL l x.id = a ++ b := by rw [h3, out_two ha hb]
    rw [with_of ha hb h4, h4, out_mid ha hb rfl]
    exact ⟨rfl, by simp; omega⟩
theorem ent_out (l : List Entry) (s : Id) : entOf (outL l s) s = none := by
  unfold entOf outL
  rw [List.find?_eq_none]
  intro z hz
  have := (List.mem_filter.1 hz).2
  simpa using this
theorem out_absent {l : List Entry} {s : Id} (h : entOf l s = none) : outL l s = l := by
  unfold outL
  rw [List.filter_eq_self]
  intro z hz
  simpa using ent_none h z hz
end Go.Proofs.Ytegmddgbdjlidaa

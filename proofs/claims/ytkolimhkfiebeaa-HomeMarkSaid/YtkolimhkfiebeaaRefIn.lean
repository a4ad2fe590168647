/-
  References: In of layer 7; Spans, In of layer 8.
-/
import Derived.Test.YtkolimhkfiebeaaHas
import Derived.Test.YtkolimhkfiebeaaBox
import Derived.Test.YtkolimhkfiebeaaSpanB
namespace Go.Proofs.Ytkolimhkfiebeaa
open Go.RowKit

/-! ### In -/

def firstOf (l : List Times) (r : Int) : List Span := match l.find? (fun x => decide (x.r = r)) with
  | some x => x.s
  | none => []

theorem find_take_none {l : List Times} {k : Nat} {x : Times} {r : Int} (h : l[k]? = some x) (hno : ∀ y ∈ l.take k, y.r ≠ r) (hx : x.r = r) : l.find? (fun x => decide (x.r = r)) = some x := by
  rw [← List.take_append_drop k l, List.find?_append, List.find?_eq_none.2 (fun y hy => by simpa using hno y hy), drop_cons h, List.find?_cons]
  simp [hx]

set_option maxHeartbeats 1000000 in
theorem refSpans08 (A : Option Addr) (c : Nat) (l : List Times) (r : Int) (w : World) (hl : l.length ≤ maxLen) (hA : R cTimes 0 w A l) :
    ∃ A' c', (firstOf l r).length ≤ c' ∧ c' ≤ maxLen ∧ R cSpan 0 w A' (firstOf l r) ∧ ∀ V, Bl w V → Calls Try.prog 182 #[.slice A l.length c, .int .u8 r] V fun e w' => e = .returned (.slice A' (firstOf l r).length c') ∧ Bl V w' := by
  unfold maxLen at hl
  have hres : ∃ A' c', (firstOf l r).length ≤ c' ∧ c' ≤ maxLen ∧ R cSpan 0 w A' (firstOf l r) ∧ ((l.find? (fun x => decide (x.r = r)) = none ∧ A' = none ∧ c' = 0) ∨ ∃ (k : Nat) (x : Times) (b off : Nat), l[k]? = some x ∧ x.r = r ∧ A = some ⟨b, off, none⟩ ∧ b < w.heap.size ∧ firstOf l r = x.s ∧ (∀ y ∈ l.take k, y.r ≠ r) ∧ w.cell? ⟨b, off + k * 2, none⟩ = some (.int .u8 x.r) ∧ w.cell? ⟨b, off + k * 2 + 1, none⟩ = some (.slice A' x.s.length c')) := by
    cases hf : l.find? (fun x => decide (x.r = r)) with
    | none =>
      refine ⟨none, 0, ?_, Nat.zero_le _, ?_, .inl ⟨rfl, rfl, rfl⟩⟩
      · unfold firstOf; rw [hf]; exact Nat.le_refl _
      · unfold firstOf; rw [hf]; exact R.nil
    | some x =>
      have he : firstOf l r = x.s := by unfold firstOf; rw [hf]
      obtain ⟨hx, asl, bs, hls, hno⟩ := List.find?_eq_some_iff_append.1 hf
      have hk : l[asl.length]? = some x := by rw [hls, List.getElem?_append_right (Nat.le_refl _), Nat.sub_self]; rfl
      obtain ⟨b, off, rfl, _, hb⟩ := hA.addr (by have := (List.getElem?_eq_some_iff.1 hk).1; omega)
      obtain ⟨_, ho, B, d, hcd, hdm, c0, c1, hB⟩ := hA.times hk
      refine ⟨B, d, by rw [he]; exact hcd, hdm, by rw [he]; exact hB, .inr ⟨asl.length, x, b, off, hk, by simpa using hx, rfl, hb, he, fun y hy => ?_, c0, c1⟩⟩
      rw [hls, List.take_left'] at hy
      · have := hno y hy
        simpa using this
      · rfl
  obtain ⟨A', c', h1, h2, h3, h4⟩ := hres
  refine ⟨A', c', h1, h2, h3, fun V hV => ?_⟩
  have hn63 : ∀ n : Nat, n ≤ maxLen → n ≤ 9223372036854775807 := fun n h => by unfold maxLen at h; omega
  rcases h4 with ⟨hnone, rfl, rfl⟩ | ⟨k, x, b, off, hk, hxr, rfl, hb, he, hno, c0, c1⟩
  · have he : firstOf l r = [] := by unfold firstOf; rw [hnone]
    rw [he]
    have hall := hide (fun y hy => by simpa using List.find?_eq_none.1 hnone y hy : ∀ y ∈ l, y.r ≠ r)
    clear h1 h2 h3 he hnone
    go_enter Try.func182, Try.ntmps182
    go_wp2
    go_loopw [5] (fun i wr => Bl V wr ∧ ∃ k : Nat, k ≤ l.length ∧ i = .int .i64 k) (fun i _ => l.length - (intOf i).toNat)
    case atStart => exact ⟨Bl.refl _, 0, Nat.zero_le _, rfl⟩
    case round =>
      obtain ⟨hbl, k, hk, rfl⟩ := hrel
      by_cases hlt : k < l.length
      · have hR := hA.bl (hV.trans hbl)
        obtain ⟨b, off, rfl, _, hb⟩ := hR.addr (by omega)
        obtain ⟨y, hy⟩ := get_lt hlt
        obtain ⟨_, ho, B, d, hcd, hdm, c0, c1, hB⟩ := hR.times hy
        have hne : (y.r == r) = false := by simpa using hall.out y (List.mem_of_getElem? hy)
        have hki : (k : Int) < (l.length : Int) := by omega
        clear hy
        go_wp2
        go_roundw
        case rel => exact ⟨hbl, k + 1, by omega, by go_num⟩
        case measure => simp [intOf]; omega
      · have hkl : l.length ≤ k := by omega
        go_wp2
        go_ret
        exact ⟨rfl, hbl⟩
  · rw [he] at h1 ⊢
    have hkl := (List.getElem?_eq_some_iff.1 hk).1
    have hno := hide hno
    have hk' := hide hk
    clear h3 he hk
    go_enter Try.func182, Try.ntmps182
    go_wp2
    go_loopw [5] (fun i wr => Bl V wr ∧ ∃ j : Nat, j ≤ k ∧ i = .int .i64 j) (fun i _ => l.length - (intOf i).toNat)
    case atStart => exact ⟨Bl.refl _, 0, Nat.zero_le _, rfl⟩
    case round =>
      obtain ⟨hbl, j, hj, rfl⟩ := hrel
      have hbV := hV.trans hbl
      have hbr := Nat.lt_of_lt_of_le hb hbV.size
      by_cases hjk : j < k
      · obtain ⟨y, hy⟩ := get_lt (show j < l.length by omega)
        obtain ⟨_, ho, B, d, hcd, hdm, d0, d1, hB⟩ := (hA.bl hbV).times hy
        have hne : (y.r == r) = false := by simpa using hno.out y (List.mem_iff_getElem?.2 ⟨j, by rw [List.getElem?_take, if_pos hjk]; exact hy⟩)
        have hji : (j : Int) < (l.length : Int) := by omega
        clear hy
        go_wp2
        go_roundw
        case rel => exact ⟨hbl, j + 1, by omega, by go_num⟩
        case measure => simp [intOf]; omega
      · obtain rfl : j = k := by omega
        have e0 := (hbV.cell hb).trans c0
        have e1 := (hbV.cell hb).trans c1
        have heq : (x.r == r) = true := by simpa using hxr
        have hji : (j : Int) < (l.length : Int) := by omega
        clear c0 c1 hxr
        go_wp2
        go_ret
        exact ⟨rfl, hbl⟩

def clockIn (l : List Times) (a : Id) : Bool := spansHave (firstOf l a.r) a.t

/-! ### Plain: the clocks -/
theorem tab_from (r : Int) : ∀ (l : List Times) (last : Int) (acc : List Span), clockFrom last l = true → l.foldl (fun acc x => if x.r = r then x.s else acc) acc = match l.find? (fun x => decide (x.r = r)) with | some x => x.s | none => acc
  | [], _, acc, _ => rfl
  | x :: l, last, acc, h => by
    simp only [clockFrom, Bool.and_eq_true, decide_eq_true_eq] at h
    rw [List.foldl_cons, List.find?_cons]
    by_cases hx : x.r = r
    · rw [if_pos hx, tab_from r l x.r x.s h.2]
      have hno : l.find? (fun y => decide (y.r = r)) = none := List.find?_eq_none.2 fun y hy => by
        have := clock_after l x.r h.2 y hy
        simp
        omega
      rw [hno]
      simp [hx]
    · rw [if_neg hx, tab_from r l x.r acc h.2]
      simp [hx]
where
  clock_after : ∀ (l : List Times) (last : Int), clockFrom last l = true → ∀ y ∈ l, last < y.r
    | [], _, _, y, hy => by cases hy
    | x :: l, last, h, y, hy => by
      simp only [clockFrom, Bool.and_eq_true, decide_eq_true_eq] at h
      rcases List.mem_cons.1 hy with rfl | hy
      · exact h.1.1.1.1
      · have := clock_after l x.r h.2 y hy
        omega

theorem tab_first {l : List Times} (h : clockMay l = true) (r : Int) : tabOf l r = firstOf l r := tab_from r l (-1) [] h

theorem first_may {l : List Times} (h : clockMay l = true) (r : Int) : spansMay (firstOf l r) = true := by
  unfold firstOf
  cases hf : l.find? (fun x => decide (x.r = r)) with
  | none => decide
  | some x => exact clockFrom_all _ (show clockFrom (-1) l = true from h) x (List.mem_of_find?_eq_some hf)

theorem clock_in {l : List Times} (h : clockMay l = true) (a : Id) : clockIn l a = clockHas l a := by
  unfold clockIn clockHas spanHasB
  rw [h, tab_first h, first_may h]
  rfl

end Go.Proofs.Ytkolimhkfiebeaa

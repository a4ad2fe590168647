/-
  Plain: the stamps of a clock, and the clock of these. The walk of ClockIds.
-/
import Derived.Test.YtkolimhkfiebeaaClockJoins
namespace Go.Proofs.Ytkolimhkfiebeaa
open Go.RowKit

theorem mem_idsN {r : Int} {x : Id} : ∀ {n : Nat} {t : Int}, x ∈ idsN r t n ↔ x.r = r ∧ t ≤ x.t ∧ x.t < t + n
  | 0, t => by
    constructor
    · intro h; cases h
    · rintro ⟨_, h1, h2⟩; omega
  | n + 1, t => by
    show x ∈ _ :: idsN r (t + 1) n ↔ _
    rw [List.mem_cons, mem_idsN]
    constructor
    · rintro (rfl | ⟨h1, h2, h3⟩)
      · exact ⟨rfl, by dsimp only; omega, by dsimp only; omega⟩
      · exact ⟨h1, by omega, by omega⟩
    · rintro ⟨h1, h2, h3⟩
      by_cases e : x.t = t
      · exact .inl (Id.ext' e h1)
      · exact .inr ⟨h1, by omega, by omega⟩

theorem mem_spansIds {r : Int} {x : Id} : ∀ {l : List Span}, x ∈ spansIds r l ↔ x.r = r ∧ spansHave l x.t = true
  | [] => by
    constructor
    · intro h; cases h
    · rintro ⟨_, h⟩; rw [have_nil] at h; cases h
  | s :: l => by
    show x ∈ idsFrom r s.f s.t ++ spansIds r l ↔ _
    rw [List.mem_append, mem_spansIds, have_cons, Bool.or_eq_true, inX_iff]
    unfold idsFrom
    rw [mem_idsN]
    constructor
    · rintro (⟨h1, h2, h3⟩ | ⟨h1, h2⟩)
      · exact ⟨h1, .inl ⟨h2, by omega⟩⟩
      · exact ⟨h1, .inr h2⟩
    · rintro ⟨h1, ⟨h2, h3⟩ | h2⟩
      · exact .inl ⟨h1, h2, by omega⟩
      · exact .inr ⟨h1, h2⟩

theorem mem_clockAll {x : Id} : ∀ {c : List Times}, x ∈ clockAll c ↔ ∃ y ∈ c, x.r = y.r ∧ spansHave y.s x.t = true
  | [] => by
    constructor
    · intro h; cases h
    · rintro ⟨y, h, _⟩; cases h
  | y :: c => by
    show x ∈ spansIds y.r y.s ++ clockAll c ↔ _
    rw [List.mem_append, mem_spansIds, mem_clockAll]
    simp

theorem first_of_mem : ∀ {l : List Times} {last : Int}, clockFrom last l = true → ∀ y ∈ l, firstOf l y.r = y.s
  | [], _, _, y, hy => by cases hy
  | x :: l, last, h, y, hy => by
    simp only [clockFrom, Bool.and_eq_true, decide_eq_true_eq] at h
    unfold firstOf
    rw [List.find?_cons]
    rcases List.mem_cons.1 hy with rfl | hy
    · simp
    · have h1 := (from_low h.2 y hy).1
      have : ¬ x.r = y.r := by omega
      simp only [this, decide_false]
      have ih := first_of_mem h.2 y hy
      unfold firstOf at ih
      exact ih

theorem have_mem {l : List Times} {r u : Int} (h : spansHave (firstOf l r) u = true) : ∃ y ∈ l, r = y.r ∧ spansHave y.s u = true := by
  unfold firstOf at h
  cases hf : l.find? (fun x => decide (x.r = r)) with
  | none => rw [hf] at h; dsimp only at h; rw [have_nil] at h; cases h
  | some x =>
    rw [hf] at h
    have h1 := List.find?_some hf
    exact ⟨x, List.mem_of_find?_eq_some hf, (of_decide_eq_true h1).symm, h⟩

theorem all_first {c : List Times} (h : clockMay c = true) {x : Id} : x ∈ clockAll c ↔ spansHave (firstOf c x.r) x.t = true := by
  rw [mem_clockAll]
  constructor
  · rintro ⟨y, hy, h1, h2⟩
    rw [h1, first_of_mem (last := -1) h y hy]
    exact h2
  · intro h1
    exact have_mem h1

theorem all_may {c : List Times} (h : clockMay c = true) (h0 : ∀ y ∈ c, 0 ≤ y.r) : idsMay (clockAll c) = true := List.all_eq_true.2 fun x hx => by
  obtain ⟨y, hy, h1, h2⟩ := mem_clockAll.1 hx
  have k1 := from_low (last := -1) h y hy
  have k2 := h0 y hy
  obtain ⟨m1, m2, m3⟩ := may_can (clockFrom_all _ (show clockFrom (-1) c = true from h) y hy)
  have k3 := m1.least h2
  have k4 := (top_have m1).1 m2 _ h2
  unfold idMay
  simp only [Bool.and_eq_true, decide_eq_true_eq]
  omega

theorem may_zero {c : List Times} (h : clockMay c = true) : ∀ y ∈ c, 0 ≤ y.r := fun y hy => by
  have := (from_low (last := -1) h y hy).1
  omega

theorem all_len {c : List Times} (h : clockMay c = true) : ((clockAll c).length : Int) = clockMany c := clockAll_length c (clockFrom_all _ (show clockFrom (-1) c = true from h))

/-- The clock of a clock's stamps is that. -/
theorem of_all {c : List Times} (h : clockMay c = true) (hm : clockMany c ≤ 1024) : ofC (clockAll c) = c := by
  have hl := all_len h
  refine ofC_is (by omega) (all_may h (may_zero h)) h fun r _ u => ?_
  rw [Bool.eq_iff_iff, decide_eq_true_eq, times_mem]
  constructor
  · intro h1
    obtain ⟨y, hy, e1, e2⟩ := have_mem h1
    exact ⟨⟨u, r⟩, mem_clockAll.2 ⟨y, hy, e1, e2⟩, rfl, rfl⟩
  · rintro ⟨x, hx, e1, rfl⟩
    rw [← e1]
    exact (all_first h).1 hx

theorem ofL_all {c : List Times} (h : clockMay c = true) (hm : clockMany c ≤ 1024) : ofL (clockAll c) = c ∧ ofN (clockAll c) = 0 := by
  have hl := all_len h
  have h1 := all_may h (may_zero h)
  have hn : ¬ 1024 < (clockAll c).length := by omega
  unfold ofL ofN
  rw [if_neg hn, if_neg hn, if_pos h1, of_all h hm, h1]
  exact ⟨rfl, rfl⟩

theorem timesOf_cons (r : Int) (x : Id) (l : List Id) : timesOf r (x :: l) = if x.r = r then x.t :: timesOf r l else timesOf r l := by
  unfold timesOf
  rw [List.filter_cons]
  by_cases e : x.r = r
  · simp [e]
  · simp [e]

def onesK (r : Int) : Nat → Int := fun k => if r = k then 1 else 0

theorem sum_ones (r : Int) : ∀ k, sumK (onesK r) k ≤ 1 ∧ (r ≥ k → sumK (onesK r) k = 0) ∧ 0 ≤ sumK (onesK r) k
  | 0 => by simp [sumK]
  | k + 1 => by
    obtain ⟨h1, h2, h3⟩ := sum_ones r k
    have e0 : sumK (onesK r) (k + 1) = sumK (onesK r) k + (if r = k then 1 else 0) := rfl
    rw [e0]
    by_cases e : r = k
    · rw [if_pos e]
      have := h2 (by omega)
      exact ⟨by omega, fun h => by omega, by omega⟩
    · rw [if_neg e]
      exact ⟨by omega, fun h => by have := h2 (by omega); omega, by omega⟩

theorem sum_mono {f g : Nat → Int} : ∀ k, (∀ r, r < k → f r ≤ g r) → sumK f k ≤ sumK g k
  | 0, _ => Int.le_refl _
  | k + 1, h => by
    have h1 := sum_mono k fun r hr => h r (by omega)
    have h2 := h k (by omega)
    unfold sumK
    omega

theorem sum_times : ∀ (l : List Id) (k : Nat), sumK (fun r => ((timesOf r l).length : Int)) k ≤ l.length
  | [], k => by
    have : ∀ k, sumK (fun r : Nat => ((timesOf (r : Int) []).length : Int)) k = 0 := fun k => by
      induction k with
      | zero => rfl
      | succ k ih => unfold sumK; rw [ih]; rfl
    rw [this]
    exact Int.le_refl _
  | x :: l, k => by
    have h1 := sum_times l k
    have h2 := (sum_ones x.r k).1
    have h3 := sumK_add (f := fun r => ((timesOf r l).length : Int)) (g := onesK x.r) (h := fun r => ((timesOf r (x :: l)).length : Int)) k fun r _ => by
      rw [timesOf_cons]
      unfold onesK
      by_cases e : x.r = r
      · rw [if_pos e, if_pos e, List.length_cons]; omega
      · rw [if_neg e, if_neg e]; omega
    simp only [List.length_cons]
    omega

/-- What ClockIds asks of the clock of some stamps. -/
structure OfIds (l : List Id) (X : List Times) (M : List Id) : Prop where
  ids : clockIds X = M ∧ clockIdsErr X = 0
  cnt : clockCount X = M.length
  len : M.length ≤ l.length
  of : ofL M = X ∧ ofN M = 0
  has : ∀ x ∈ l, clockHas X x = true
  lx : X.length ≤ 8

theorem of_ids {l : List Id} (hl : l.length ≤ 1000) (hm : idsMay l = true) (h0 : ∀ x ∈ l, 0 ≤ x.r) : OfIds l (ofL l) (clockAll (ofL l)) := by
  have e : ofL l = ofC l := by unfold ofL; rw [if_neg (by omega), if_pos hm]
  have h8 := ofL_len l
  rw [e] at *
  have hc := ofC_may hm (by omega)
  have hmany : clockMany (ofC l) ≤ l.length := by
    have h1 : clockMany (ofC l) = sumK (fun r => spansMany (ofR l r)) 8 := clockMany_each (ofR l) 8
    have h2 := sum_mono (f := fun r => spansMany (ofR l r)) (g := fun r => ((timesOf r l).length : Int)) 8 fun r _ => (ofR_ok hm r).many
    have h3 := sum_times l 8
    omega
  have hl2 := all_len hc
  refine ⟨⟨?_, ?_⟩, ?_, by omega, ofL_all hc (by omega), fun x hx => ?_, h8⟩
  · unfold clockIds; rw [if_pos hc, if_pos (by omega)]
  · unfold clockIdsErr; rw [if_pos hc, if_pos (by omega)]
  · unfold clockCount; rw [if_pos hc]; exact hl2.symm
  · have hi := List.all_eq_true.1 hm x hx
    unfold idMay at hi
    simp only [Bool.and_eq_true, decide_eq_true_eq] at hi
    have h1 := h0 x hx
    rw [has_first hc]
    obtain ⟨r, hr⟩ : ∃ r : Nat, x.r = r := ⟨x.r.toNat, by omega⟩
    rw [hr, first_ofC l r (by omega), (ofR_ok hm r).has]
    exact decide_eq_true (times_mem.2 ⟨x, hx, hr, rfl⟩)

theorem R.okI {lo : Nat} {w : World} {A : Option Addr} {l : List Id} (h : R cId lo w A l) : ∀ x ∈ l, x.ok := by
  obtain ⟨cells, hr, -⟩ := h
  induction l generalizing cells with
  | nil => intro x hx; cases hx
  | cons y l ih =>
    obtain ⟨a, b, rfl, ha, hb⟩ := hr
    intro x hx
    rcases List.mem_cons.1 hx with rfl | hx
    · exact ha.1
    · exact ih b hb x hx

/-- How the stamps of a clock come back. -/
structure IdsBack (c : List Times) (M : List Id) : Prop where
  ids : clockIds c = M
  err : clockIdsErr c = 0
  of : ofL M = c
  ofn : ofN M = 0

theorem ids_back (c : List Times) : IdsBack c (clockIds c) ∨ (clockIds c = [] ∧ (clockIdsErr c = 8 ∨ clockIdsErr c = 4)) := by
  unfold clockIdsErr
  by_cases h : clockMay c = true
  · by_cases hm : clockMany c ≤ 1024
    · left
      have e : clockIds c = clockAll c := by unfold clockIds; rw [if_pos h, if_pos hm]
      rw [e]
      exact ⟨e, by unfold clockIdsErr; rw [if_pos h, if_pos hm], (ofL_all h hm).1, (ofL_all h hm).2⟩
    · right
      unfold clockIds
      rw [if_pos h, if_neg hm, if_pos h, if_neg hm]
      exact ⟨rfl, .inr rfl⟩
  · right
    unfold clockIds
    rw [if_neg h, if_neg h]
    exact ⟨rfl, .inl rfl⟩

/-- The second half: the stamps of a clock, their clock, and its stamps. -/
theorem ofN_cases {l : List Id} (h : l.length ≤ 1000) : (ofN l = 0 ∧ idsMay l = true) ∨ ofN l = 8 := by
  unfold ofN
  rw [if_neg (by omega)]
  cases h : idsMay l
  · exact .inr rfl
  · exact .inl ⟨rfl, rfl⟩

set_option maxRecDepth 100000 in
set_option maxHeartbeats 8000000 in
theorem lawClockIds08 (A C : Option Addr) (c d : Nat) (l : List Id) (t : List Times) (w : World) (hl : l.length ≤ 140737488355328) (ht : t.length ≤ 140737488355328) (hst : ∀ y ∈ t, y.s.length ≤ 140737488355328)
    (hA : R cId 0 w A l) (hC : R cTimes 0 w C t) :
    Calls Try.prog 5 #[.slice A l.length c, .slice C t.length d] w fun e w' => e = .returned (.bool true) ∧ Bl w w' := by
  have htm : t.length ≤ maxLen := by unfold maxLen; omega
  have hgc := hide fun V (hv : Bl w V) => refGreat08 C d t V ht hst (hC.bl hv)
  by_cases hbig : (1000 : Int) < (l.length : Int)
  · go_enter Try.func5, Try.ntmps5
    go_wp2_with fail
    refine (lawAlive08 _).mono ?_
    rintro e w1 ⟨rfl, hb1⟩
    go_wp2_with fail
    go_ret
    exact ⟨rfl, hb1⟩
  have hl0 : l.length ≤ 1000 := by omega
  have hll := hide hl0
  have hd1 : decide ((1000 : Int) < (l.length : Int)) = false := decide_eq_false hbig
  have pof := fun V (hv : Bl w V) => clockOf A c l V (by unfold maxLen; omega) (hA.bl hv)
  have hic := fun V (hv : Bl w V) => clockIdsC C d t V htm (hC.bl hv)
  have hoks := hide hA.okI
  have hA := hA
  rcases ids_back t with gb | ⟨eb, nb⟩
  · have lm2 := clockIds_len t
    have hof2 := fun X x V (hX : R cId 0 V X (clockIds t)) => clockOf X x (clockIds t) V (by unfold maxLen; omega) hX
    have hids2 := fun X x V (hX : R cTimes 0 V X t) => clockIdsC X x t V htm hX
    have hsam2 := hide fun X x V (hX : R cTimes 0 V X t) (hv : Bl w V) => clockSameSelf t (c := x) (d := d) htm hX (hC.bl hv)
    have hsid2 := hide fun X x Y y V (hX : R cId 0 V X (clockIds t)) (hY : R cId 0 V Y (clockIds t)) => sameIdsSelf (clockIds t) (c := x) (d := y) (by unfold maxLen; omega) hX hY
    simp only [gb.err] at hic
    simp only [gb.of, gb.ofn] at hof2
    simp only [gb.err] at hids2
    generalize clockIds t = M2 at *
    clear gb
    replace hic := hide hic
    replace hof2 := hide hof2
    replace hids2 := hide hids2
    rcases ofN_cases hl0 with ⟨en, hm⟩ | en
    · have g := of_ids hl0 hm fun x hx => (hoks.out x hx).2.2.1
      rw [en] at pof
      generalize ofL l = X0 at *
      generalize clockAll X0 = M0 at *
      have kids := fun X x V (hX : R cTimes 0 V X X0) => clockIdsC X x X0 V (by have := g.lx; unfold maxLen; omega) hX
      rw [g.ids.1, g.ids.2] at kids
      have kcnt := fun X x V (hX : R cTimes 0 V X X0) => clockCountC X x X0 V (by have := g.lx; unfold maxLen; omega) hX
      rw [g.cnt] at kcnt
      have kof := fun X x V (hX : R cId 0 V X M0) => clockOf X x M0 V (by have := g.len; unfold maxLen; omega) hX
      rw [g.of.1, g.of.2] at kof
      have khas := hide fun X x y (hy : y ∈ l) (hyo : y.ok) V (hX : R cTimes 0 V X X0) => (show Calls Try.prog 36 #[.slice X X0.length x, .agg #[.int .u32 y.t, .int .u8 y.r]] V fun e w' => e = .returned (.bool true) ∧ Bl V w' by
        have h := clockHasC X x X0 y V (by have := g.lx; omega) hyo hX
        rwa [g.has y hy] at h)
      have ksame := hide fun X x Y y V (hX : R cTimes 0 V X X0) (hY : R cTimes 0 V Y X0) => clockSameSelf X0 (c := x) (d := y) (by have := g.lx; unfold maxLen; omega) hX hY
      have lx := g.lx
      have lm := g.len
      have lmi : (M0.length : Int) ≤ (l.length : Int) := by omega
      have lmn : decide (l.length < M0.length) = false := decide_eq_false (by omega)
      have e1 : ((M0.length : Int) != (M0.length : Int)) = false := by simp
      clear g hm en
      replace kids := hide kids
      replace kcnt := hide kcnt
      replace kof := hide kof
      replace pof := hide pof
      go_enter Try.func5, Try.ntmps5
      go_wp2_with fail
      refine (lawAlive08 _).mono ?_
      rintro e w1 ⟨rfl, hb1⟩
      go_wp2_with fail
      refine (hgc.out _ (by repeat first | assumption | exact Bl.refl _ | refine Bl.alloc ?_ _ | refine Bl.trans ?_ (by assumption))).mono ?_
      rintro e w2 ⟨q1, rfl, hfa, hb2⟩
      clear hfa
      cases q1
      rotate_left
      · go_wp2_with fail
        go_ret
        exact ⟨rfl, (by repeat first | assumption | exact Bl.refl _ | refine Bl.alloc ?_ _ | refine Bl.trans ?_ (by assumption))⟩
      go_wp2_with fail
      refine (pof.out _ (by repeat first | assumption | exact Bl.refl _ | refine Bl.alloc ?_ _ | refine Bl.trans ?_ (by assumption))).mono ?_
      rintro e w3 ⟨X, x, rfl, x1, x2, hX, hb3⟩
      have hb03 : Bl w w3 := (by repeat first | assumption | exact Bl.refl _ | refine Bl.alloc ?_ _ | refine Bl.trans ?_ (by assumption))
      clear hb1 hb2
      have lxm : X0.length ≤ maxLen := by unfold maxLen; omega
      go_wp2_with fail
      refine (kids.out X x _ hX.zero).mono ?_
      rintro e w4 ⟨M, m, rfl, m1, m2, hM, hb4⟩
      go_wp2_with fail
      refine (kcnt.out X x _ (hX.zero.bl hb4)).mono ?_
      rintro e w5 ⟨rfl, hb5⟩
      have hb05 := hb03.trans (hb4.trans hb5)
      have hX5 := hX.zero.bl (hb4.trans hb5)
      have hM5 := hM.zero.bl hb5
      clear hb03 hb4 hb5 hX hM
      go_wp2_with fail
      go_loopw [10] (fun i wr => Bl w5 wr ∧ ∃ k : Nat, k ≤ l.length ∧ i = .int .i64 k) (fun i _ => l.length - (intOf i).toNat)
      case atStart => exact ⟨Bl.refl _, 0, Nat.zero_le _, rfl⟩
      case round =>
        obtain ⟨hbl, k, hk, rfl⟩ := hrel
        by_cases hlt : k < l.length
        · have hR := hA.bl (hb05.trans hbl)
          obtain ⟨b, off, rfl, _, hb⟩ := hR.addr (by omega)
          obtain ⟨y, hy⟩ := get_lt hlt
          obtain ⟨_, hyo, c0, c1⟩ := hR.id hy
          have hki : (k : Int) < (l.length : Int) := by omega
          have kh := hide (khas.out X x y (List.mem_of_getElem? hy) hyo _ (hX5.bl hbl))
          clear hy
          go_wp2_with fail
          refine kh.out.mono ?_
          rintro e w6 ⟨rfl, hb6⟩
          go_wp2_with fail
          go_roundw
          case rel => exact ⟨hbl.trans hb6, k + 1, by omega, by go_num⟩
          case measure => simp [intOf]; omega
        · have hki : ¬ (k : Int) < (l.length : Int) := by omega
          go_wp2_with fail
          refine (kof.out M m _ (hM5.bl hbl)).mono ?_
          rintro e w6 ⟨Y, y, rfl, y1, y2, hY, hb6⟩
          go_wp2_with fail
          refine (ksame.out X x Y y _ (hX5.bl (hbl.trans hb6)) hY.zero).mono ?_
          rintro e w7 ⟨rfl, hb7⟩
          have hb07 := hb05.trans (hbl.trans (hb6.trans hb7))
          clear hbl hb6 hb7 hY hX5 hM5 hb05
          go_wp2_with fail
          refine (hic.out _ hb07).mono ?_
          rintro e v1 ⟨I, i, rfl, i1, i2, hI, hv1⟩
          have hvb1 := Bl.trans hb07 hv1
          go_wp2_with fail
          refine (hof2.out I i _ hI.zero).mono ?_
          rintro e v2 ⟨J, j, rfl, j1, j2, hJ, hv2⟩
          have hvb2 := hvb1.trans hv2
          go_wp2_with fail
          refine (hids2.out J j _ hJ.zero).mono ?_
          rintro e v3 ⟨K, kk, rfl, k1, k2, hK, hv3⟩
          have hvb3 := hvb2.trans hv3
          go_wp2_with fail
          refine (hsam2.out J j _ (hJ.zero.bl hv3) hvb3).mono ?_
          rintro e v4 ⟨rfl, hv4⟩
          have hvb4 := hvb3.trans hv4
          go_wp2_with fail
          refine (hsid2.out I i K kk _ (hI.zero.bl (hv2.trans (hv3.trans hv4))) (hK.zero.bl hv4)).mono ?_
          rintro e v5 ⟨rfl, hv5⟩
          have hvb5 := hvb4.trans hv5
          go_wp2_with fail
          go_ret
          exact ⟨rfl, hvb5⟩
    · rw [en] at pof
      generalize ofL l = X0 at *
      replace pof := hide pof
      clear en
      go_enter Try.func5, Try.ntmps5
      go_wp2_with fail
      refine (lawAlive08 _).mono ?_
      rintro e w1 ⟨rfl, hb1⟩
      go_wp2_with fail
      refine (hgc.out _ (by repeat first | assumption | exact Bl.refl _ | refine Bl.alloc ?_ _ | refine Bl.trans ?_ (by assumption))).mono ?_
      rintro e w2 ⟨q1, rfl, hfa, hb2⟩
      clear hfa
      cases q1
      rotate_left
      · go_wp2_with fail
        go_ret
        exact ⟨rfl, (by repeat first | assumption | exact Bl.refl _ | refine Bl.alloc ?_ _ | refine Bl.trans ?_ (by assumption))⟩
      go_wp2_with fail
      refine (pof.out _ (by repeat first | assumption | exact Bl.refl _ | refine Bl.alloc ?_ _ | refine Bl.trans ?_ (by assumption))).mono ?_
      rintro e w3 ⟨X, x, rfl, x1, x2, hX, hb3⟩
      have hb03 : Bl w w3 := (by repeat first | assumption | exact Bl.refl _ | refine Bl.alloc ?_ _ | refine Bl.trans ?_ (by assumption))
      clear hb1 hb2
      go_wp2_with fail
      refine (hic.out _ hb03).mono ?_
      rintro e v1 ⟨I, i, rfl, i1, i2, hI, hv1⟩
      have hvb1 := Bl.trans hb03 hv1
      go_wp2_with fail
      refine (hof2.out I i _ hI.zero).mono ?_
      rintro e v2 ⟨J, j, rfl, j1, j2, hJ, hv2⟩
      have hvb2 := hvb1.trans hv2
      go_wp2_with fail
      refine (hids2.out J j _ hJ.zero).mono ?_
      rintro e v3 ⟨K, kk, rfl, k1, k2, hK, hv3⟩
      have hvb3 := hvb2.trans hv3
      go_wp2_with fail
      refine (hsam2.out J j _ (hJ.zero.bl hv3) hvb3).mono ?_
      rintro e v4 ⟨rfl, hv4⟩
      have hvb4 := hvb3.trans hv4
      go_wp2_with fail
      refine (hsid2.out I i K kk _ (hI.zero.bl (hv2.trans (hv3.trans hv4))) (hK.zero.bl hv4)).mono ?_
      rintro e v5 ⟨rfl, hv5⟩
      have hvb5 := hvb4.trans hv5
      go_wp2_with fail
      go_ret
      exact ⟨rfl, hvb5⟩
  · rw [eb] at hic
    obtain ⟨N, hN, hN0⟩ : ∃ N, clockIdsErr t = N ∧ (N == (0 : Int)) = false := ⟨_, rfl, by rcases nb with h | h <;> rw [h] <;> rfl⟩
    have hN1 : (N != (0 : Int)) = true := by simp [bne, hN0]
    rw [hN] at hic
    clear eb nb hN
    replace hic := hide hic
    rcases ofN_cases hl0 with ⟨en, hm⟩ | en
    · have g := of_ids hl0 hm fun x hx => (hoks.out x hx).2.2.1
      rw [en] at pof
      generalize ofL l = X0 at *
      generalize clockAll X0 = M0 at *
      have kids := fun X x V (hX : R cTimes 0 V X X0) => clockIdsC X x X0 V (by have := g.lx; unfold maxLen; omega) hX
      rw [g.ids.1, g.ids.2] at kids
      have kcnt := fun X x V (hX : R cTimes 0 V X X0) => clockCountC X x X0 V (by have := g.lx; unfold maxLen; omega) hX
      rw [g.cnt] at kcnt
      have kof := fun X x V (hX : R cId 0 V X M0) => clockOf X x M0 V (by have := g.len; unfold maxLen; omega) hX
      rw [g.of.1, g.of.2] at kof
      have khas := hide fun X x y (hy : y ∈ l) (hyo : y.ok) V (hX : R cTimes 0 V X X0) => (show Calls Try.prog 36 #[.slice X X0.length x, .agg #[.int .u32 y.t, .int .u8 y.r]] V fun e w' => e = .returned (.bool true) ∧ Bl V w' by
        have h := clockHasC X x X0 y V (by have := g.lx; omega) hyo hX
        rwa [g.has y hy] at h)
      have ksame := hide fun X x Y y V (hX : R cTimes 0 V X X0) (hY : R cTimes 0 V Y X0) => clockSameSelf X0 (c := x) (d := y) (by have := g.lx; unfold maxLen; omega) hX hY
      have lx := g.lx
      have lm := g.len
      have lmi : (M0.length : Int) ≤ (l.length : Int) := by omega
      have lmn : decide (l.length < M0.length) = false := decide_eq_false (by omega)
      have e1 : ((M0.length : Int) != (M0.length : Int)) = false := by simp
      clear g hm en
      replace kids := hide kids
      replace kcnt := hide kcnt
      replace kof := hide kof
      replace pof := hide pof
      go_enter Try.func5, Try.ntmps5
      go_wp2_with fail
      refine (lawAlive08 _).mono ?_
      rintro e w1 ⟨rfl, hb1⟩
      go_wp2_with fail
      refine (hgc.out _ (by repeat first | assumption | exact Bl.refl _ | refine Bl.alloc ?_ _ | refine Bl.trans ?_ (by assumption))).mono ?_
      rintro e w2 ⟨q1, rfl, hfa, hb2⟩
      clear hfa
      cases q1
      rotate_left
      · go_wp2_with fail
        go_ret
        exact ⟨rfl, (by repeat first | assumption | exact Bl.refl _ | refine Bl.alloc ?_ _ | refine Bl.trans ?_ (by assumption))⟩
      go_wp2_with fail
      refine (pof.out _ (by repeat first | assumption | exact Bl.refl _ | refine Bl.alloc ?_ _ | refine Bl.trans ?_ (by assumption))).mono ?_
      rintro e w3 ⟨X, x, rfl, x1, x2, hX, hb3⟩
      have hb03 : Bl w w3 := (by repeat first | assumption | exact Bl.refl _ | refine Bl.alloc ?_ _ | refine Bl.trans ?_ (by assumption))
      clear hb1 hb2
      have lxm : X0.length ≤ maxLen := by unfold maxLen; omega
      go_wp2_with fail
      refine (kids.out X x _ hX.zero).mono ?_
      rintro e w4 ⟨M, m, rfl, m1, m2, hM, hb4⟩
      go_wp2_with fail
      refine (kcnt.out X x _ (hX.zero.bl hb4)).mono ?_
      rintro e w5 ⟨rfl, hb5⟩
      have hb05 := hb03.trans (hb4.trans hb5)
      have hX5 := hX.zero.bl (hb4.trans hb5)
      have hM5 := hM.zero.bl hb5
      clear hb03 hb4 hb5 hX hM
      go_wp2_with fail
      go_loopw [10] (fun i wr => Bl w5 wr ∧ ∃ k : Nat, k ≤ l.length ∧ i = .int .i64 k) (fun i _ => l.length - (intOf i).toNat)
      case atStart => exact ⟨Bl.refl _, 0, Nat.zero_le _, rfl⟩
      case round =>
        obtain ⟨hbl, k, hk, rfl⟩ := hrel
        by_cases hlt : k < l.length
        · have hR := hA.bl (hb05.trans hbl)
          obtain ⟨b, off, rfl, _, hb⟩ := hR.addr (by omega)
          obtain ⟨y, hy⟩ := get_lt hlt
          obtain ⟨_, hyo, c0, c1⟩ := hR.id hy
          have hki : (k : Int) < (l.length : Int) := by omega
          have kh := hide (khas.out X x y (List.mem_of_getElem? hy) hyo _ (hX5.bl hbl))
          clear hy
          go_wp2_with fail
          refine kh.out.mono ?_
          rintro e w6 ⟨rfl, hb6⟩
          go_wp2_with fail
          go_roundw
          case rel => exact ⟨hbl.trans hb6, k + 1, by omega, by go_num⟩
          case measure => simp [intOf]; omega
        · have hki : ¬ (k : Int) < (l.length : Int) := by omega
          go_wp2_with fail
          refine (kof.out M m _ (hM5.bl hbl)).mono ?_
          rintro e w6 ⟨Y, y, rfl, y1, y2, hY, hb6⟩
          go_wp2_with fail
          refine (ksame.out X x Y y _ (hX5.bl (hbl.trans hb6)) hY.zero).mono ?_
          rintro e w7 ⟨rfl, hb7⟩
          have hb07 := hb05.trans (hbl.trans (hb6.trans hb7))
          clear hbl hb6 hb7 hY hX5 hM5 hb05
          go_wp2_with fail
          refine (hic.out _ hb07).mono ?_
          rintro e v1 ⟨I, i, rfl, i1, i2, hI, hv1⟩
          have hvb1 := Bl.trans hb07 hv1
          go_wp2_with fail
          go_ret
          exact ⟨rfl, hvb1⟩
    · rw [en] at pof
      generalize ofL l = X0 at *
      replace pof := hide pof
      clear en
      go_enter Try.func5, Try.ntmps5
      go_wp2_with fail
      refine (lawAlive08 _).mono ?_
      rintro e w1 ⟨rfl, hb1⟩
      go_wp2_with fail
      refine (hgc.out _ (by repeat first | assumption | exact Bl.refl _ | refine Bl.alloc ?_ _ | refine Bl.trans ?_ (by assumption))).mono ?_
      rintro e w2 ⟨q1, rfl, hfa, hb2⟩
      clear hfa
      cases q1
      rotate_left
      · go_wp2_with fail
        go_ret
        exact ⟨rfl, (by repeat first | assumption | exact Bl.refl _ | refine Bl.alloc ?_ _ | refine Bl.trans ?_ (by assumption))⟩
      go_wp2_with fail
      refine (pof.out _ (by repeat first | assumption | exact Bl.refl _ | refine Bl.alloc ?_ _ | refine Bl.trans ?_ (by assumption))).mono ?_
      rintro e w3 ⟨X, x, rfl, x1, x2, hX, hb3⟩
      have hb03 : Bl w w3 := (by repeat first | assumption | exact Bl.refl _ | refine Bl.alloc ?_ _ | refine Bl.trans ?_ (by assumption))
      clear hb1 hb2
      go_wp2_with fail
      refine (hic.out _ hb03).mono ?_
      rintro e v1 ⟨I, i, rfl, i1, i2, hI, hv1⟩
      have hvb1 := Bl.trans hb03 hv1
      go_wp2_with fail
      go_ret
      exact ⟨rfl, hvb1⟩
end Go.Proofs.Ytkolimhkfiebeaa

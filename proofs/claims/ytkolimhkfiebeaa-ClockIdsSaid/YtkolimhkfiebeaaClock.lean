/-
  The walks of package clock that make no sets.
-/
import Derived.Test.YtkolimhkfiebeaaSpan
namespace Go.Proofs.Ytkolimhkfiebeaa
open Go.RowKit

/-! ### Plain -/
def clockFrom (last : Int) : List Times → Bool
  | [] => true
  | x :: l => decide (last < x.r) && decide (x.r < 8) && decide (1 ≤ x.s.length) && spansMay x.s && clockFrom x.r l
/-- May a clock be? -/
def clockMay (l : List Times) : Bool := clockFrom (-1) l
theorem clockFrom_bad {l rest : List Times} {last : Int} {k : Nat} {x : Times} (h : clockMay l = clockFrom last (l.drop k)) (hd : l.drop k = x :: rest) (hb : ¬ (last < x.r ∧ x.r < 8 ∧ 1 ≤ x.s.length ∧ spansMay x.s = true)) : clockMay l = false := by
  rw [h, hd, clockFrom]
  by_cases h1 : last < x.r <;> by_cases h2 : x.r < 8 <;> by_cases h3 : 1 ≤ x.s.length <;> cases h4 : spansMay x.s <;> simp_all <;> intros <;> omega
theorem clockFrom_good {l rest : List Times} {last : Int} {k : Nat} {x : Times} (h : clockMay l = clockFrom last (l.drop k)) (hd : l.drop k = x :: rest) (h1 : last < x.r) (h2 : x.r < 8) (h3 : 1 ≤ x.s.length) (h4 : spansMay x.s = true) : clockMay l = clockFrom x.r rest := by
  rw [h, hd, clockFrom]
  simp [h1, h2, h3, h4]

set_option maxHeartbeats 400000 in
theorem clockCheck (A : Option Addr) (c : Nat) (l : List Times) (w : World) (hl : l.length ≤ maxLen) (hA : R cTimes 0 w A l) :
    Calls Try.prog 15 #[.slice A l.length c] w fun e w' => e = .returned (.int .i64 (okOr 8 (clockMay l))) ∧ Bl w w' := by
  unfold maxLen at hl
  go_enter Try.func15, Try.ntmps15
  go_wp2
  go_loopw [3, 8] (fun t i wr => Bl w wr ∧ ∃ (k : Nat) (last : Int), k ≤ l.length ∧ i = .int .i64 k ∧ t = .int .i64 last ∧ -1 ≤ last ∧ last ≤ 255 ∧ Hid (clockMay l = clockFrom last (l.drop k))) (fun _ i _ => l.length - (intOf i).toNat)
  case atStart => exact ⟨Bl.refl _, 0, -1, Nat.zero_le _, rfl, rfl, by omega, by omega, rfl⟩
  case round =>
    obtain ⟨hbl, k, last, hk, rfl, rfl, hl0, hl1, hf⟩ := hrel
    by_cases hlt : k < l.length
    · have hR := hA.bl hbl
      obtain ⟨b, off, rfl, _, hb⟩ := hR.addr (by omega)
      obtain ⟨x, hx⟩ := get_lt hlt
      obtain ⟨_, ho, B, d, hcd, hdm, c0, c1, hB⟩ := hR.times hx
      have hd := hide (drop_cons hx)
      clear hx
      obtain ⟨o0, o1⟩ := ho
      have hsl : x.s.length ≤ maxLen := by omega
      have hsl' : x.s.length ≤ 9223372036854775807 := by unfold maxLen at hsl; omega
      cases hm : spansMay x.s
      · have hm' := hide hm
        go_wp2_with (go_at_call 69; refine (spanCheck B d x.s _ hsl (hB.bl ((Bl.refl _).alloc _))).mono ?_; rintro e w1 ⟨rfl, hb1⟩; rw [hm, okOr_false])
        all_goals
          go_ret
          refine ⟨ret_int (by rw [clockFrom_bad hf.out hd.out (by rw [hm'.out]; simp)]; rfl), ?_⟩
          first | exact hbl.alloc _ | exact (hbl.alloc _).trans hb1
      · have hm' := hide hm
        go_wp2_with (go_at_call 69; refine (spanCheck B d x.s _ hsl (hB.bl ((Bl.refl _).alloc _))).mono ?_; rintro e w1 ⟨rfl, hb1⟩; rw [hm, okOr_true]; have hc1 := hb1.cells)
        all_goals first
          | (go_roundw
             case rel => exact ⟨(hbl.alloc _).trans hb1, k + 1, x.r, by omega, by go_num, rfl, by omega, by omega, clockFrom_good hf.out hd.out (by omega) (by omega) (by omega) hm'.out⟩
             case measure => simp [intOf]; omega)
          | (go_ret
             exact ⟨ret_int (by rw [clockFrom_bad hf.out hd.out (by omega)]; rfl), hbl.alloc _⟩)
    · have hkl : l.length ≤ k := by omega
      go_wp2
      go_ret
      exact ⟨ret_int (by rw [hf.out, List.drop_eq_nil_of_le hkl]; rfl), hbl⟩

/-! ### Equality -/
def eqTimes (x y : Times) : Bool := decide (x = y)
theorem eqTimes_true {x y : Times} (h : eqTimes x y = true) : x = y := by unfold eqTimes at h; simpa using h
theorem eqTimes_false {x y : Times} (h : eqTimes x y = false) : x ≠ y := by unfold eqTimes at h; simpa using h
theorem eqTimes_parts (x y : Times) : eqTimes x y = (x.r == y.r && same x.s y.s) := by
  cases x; cases y
  unfold eqTimes same
  rw [Bool.eq_iff_iff]
  simp

set_option maxHeartbeats 400000 in
theorem clockSame1 (x y : Times) (A B : Option Addr) (c d : Nat) (w : World) (hl : x.s.length ≤ maxLen) (hm : y.s.length ≤ maxLen) (hA : R cSpan 0 w A x.s) (hB : R cSpan 0 w B y.s) :
    Calls Try.prog 74 #[.agg #[.int .u8 x.r, .slice A x.s.length c], .agg #[.int .u8 y.r, .slice B y.s.length d]] w fun e w' => e = .returned (.bool (eqTimes x y)) ∧ Bl w w' := by
  have hp := eqTimes_parts x y
  by_cases h : x.r = y.r
  · have e1 : (x.r == y.r) = true := by simp [h]
    rw [e1, Bool.true_and] at hp
    have hp := hide hp
    have h' := hide h
    clear h
    go_enter Try.func74, Try.ntmps74
    go_wp2_with (go_at_call 75; refine (spanSame A B c d x.s y.s _ hl hm (hA.bl (((Bl.refl _).alloc _).alloc _)) (hB.bl (((Bl.refl _).alloc _).alloc _))).mono ?_; rintro e w1 ⟨rfl, hb1⟩)
    go_ret
    exact ⟨ret_bool hp.out.symm, (((Bl.refl _).alloc _).alloc _).trans hb1⟩
  · have e1 : (x.r == y.r) = false := by simp [h]
    rw [e1, Bool.false_and] at hp
    have hp := hide hp
    clear h
    go_enter Try.func74, Try.ntmps74
    go_wp2
    go_ret
    exact ⟨ret_bool hp.out.symm, ((Bl.refl _).alloc _).alloc _⟩

set_option maxHeartbeats 400000 in
theorem clockEqualFunc (A B : Option Addr) (c d : Nat) (l m : List Times) (w : World) (hl : l.length ≤ maxLen) (_hm : m.length ≤ maxLen) (hA : R cTimes 0 w A l) (hB : R cTimes 0 w B m) :
    Calls Try.prog 73 #[.slice A l.length c, .slice B m.length d, .func (.func 74) #[] #[]] w fun e w' => e = .returned (.bool (same l m)) ∧ Bl w w' := by
  unfold maxLen at hl
  by_cases hne : l.length = m.length
  · have hne1 : ((l.length : Int) != (m.length : Int)) = false := by simp [hne]
    have hle : l.length ≤ m.length := by omega
    have hle' : m.length ≤ l.length := by omega
    clear hne
    go_enter Try.func73, Try.ntmps73
    go_wp2
    go_loopw [17] (fun i wr => Bl w wr ∧ ∃ k : Nat, k ≤ l.length ∧ i = .int .i64 k ∧ Hid (decide (l = m) = decide (l.drop k = m.drop k))) (fun i _ => l.length - (intOf i).toNat)
    case atStart => exact ⟨Bl.refl _, 0, Nat.zero_le _, rfl, rfl⟩
    case round =>
      obtain ⟨hbl, k, hk, rfl, hf⟩ := hrel
      by_cases hlt : k < l.length
      · have hR := hA.bl hbl
        have hS := hB.bl hbl
        obtain ⟨b, off, rfl, _, hb⟩ := hR.addr (by omega)
        obtain ⟨b', off', rfl, _, hb'⟩ := hS.addr (by omega)
        obtain ⟨x, hx⟩ := get_lt hlt
        obtain ⟨y, hy⟩ := get_lt (show k < m.length by omega)
        obtain ⟨_, ho, A1, a1, ha1, ha2, c0, c1, hA1⟩ := hR.times hx
        obtain ⟨_, ho', B1, b1, hb1, hb2, d0, d1, hB1⟩ := hS.times hy
        have hx := hide hx
        have hy := hide hy
        have hlt' : k < m.length := by omega
        have hcall := fun W (hW : Bl wr W) => clockSame1 x y A1 B1 a1 b1 W (by omega) (by omega) (hA1.bl hW) (hB1.bl hW)
        cases hq : eqTimes x y
        · have g := hide (drop_ne_step hf.out hx.out hy.out (eqTimes_false hq))
          rw [hq] at hcall
          have hcall := hide hcall
          clear hq
          go_wp2_with (go_at_call 74; refine (hcall.out _ (((Bl.refl _).alloc _).alloc _)).mono ?_; rintro e w1 ⟨rfl, hbq⟩)
          go_ret
          exact ⟨ret_bool g.out, ((hbl.alloc _).alloc _).trans hbq⟩
        · have g := hide (drop_eq_step hf.out hx.out hy.out (eqTimes_true hq))
          rw [hq] at hcall
          have hcall := hide hcall
          clear hq
          go_wp2_with (go_at_call 74; refine (hcall.out _ (((Bl.refl _).alloc _).alloc _)).mono ?_; rintro e w1 ⟨rfl, hbq⟩)
          go_roundw
          case rel => exact ⟨((hbl.alloc _).alloc _).trans hbq, k + 1, by omega, by go_num, g⟩
          case measure => simp [intOf]; omega
      · have hkl : l.length ≤ k := by omega
        go_wp2
        go_ret
        exact ⟨ret_bool (drop_eq_end hf.out hkl (by omega)), hbl⟩
  · have hne1 : ((l.length : Int) != (m.length : Int)) = true := by simp; omega
    go_enter Try.func73, Try.ntmps73
    go_wp2
    go_ret
    exact ⟨ret_bool (ne_of_length hne), Bl.refl _⟩

set_option maxHeartbeats 400000 in
theorem clockSame (A B : Option Addr) (c d : Nat) (l m : List Times) (w : World) (hl : l.length ≤ maxLen) (hm : m.length ≤ maxLen) (hA : R cTimes 0 w A l) (hB : R cTimes 0 w B m) :
    Calls Try.prog 18 #[.slice A l.length c, .slice B m.length d] w fun e w' => e = .returned (.bool (same l m)) ∧ Bl w w' := by
  go_enter Try.func18, Try.ntmps18
  go_wp2_with (go_at_call 73; refine (clockEqualFunc A B c d l m _ hl hm hA hB).mono ?_; rintro e w' ⟨rfl, hb⟩)
  go_ret
  exact ⟨rfl, hb⟩

/-! ### How many -/
def clockMany : List Times → Int
  | [] => 0
  | x :: l => spansMany x.s + clockMany l
/-- clock.Count. -/
def clockCount (l : List Times) : Int := if clockMay l then clockMany l else 0
/-- All spans of a clock may be. -/
def allMay (l : List Times) : Prop := ∀ x ∈ l, spansMay x.s = true
theorem clockFrom_all {l : List Times} : ∀ last, clockFrom last l = true → allMay l := by
  induction l with
  | nil => intro _ _ x hx; cases hx
  | cons y l ih =>
    intro last h x hx
    simp only [clockFrom, Bool.and_eq_true, decide_eq_true_eq] at h
    rcases List.mem_cons.1 hx with rfl | hx
    · exact h.1.2
    · exact ih _ h.2 x hx
theorem clockFrom_length {l : List Times} : ∀ last, -1 ≤ last → last ≤ 7 → clockFrom last l = true → (l.length : Int) ≤ 7 - last := by
  induction l with
  | nil => intro last _ h _; simp; omega
  | cons y l ih =>
    intro last h0 h7 h
    simp only [clockFrom, Bool.and_eq_true, decide_eq_true_eq] at h
    have := ih y.r (by omega) (by omega) h.2
    simp only [List.length_cons]
    omega
theorem clockMay_length {l : List Times} (h : clockMay l = true) : l.length ≤ 8 := by
  have := clockFrom_length (-1) (by omega) (by omega) h
  omega
theorem spansMay_many {l : List Span} (h : spansMay l = true) : 0 ≤ spansMany l ∧ spansMany l ≤ 1099511627776 := by
  unfold spansMay at h
  simp only [Bool.and_eq_true, decide_eq_true_eq] at h
  have := spansMany_le l 1 (by omega) h.2
  omega

set_option maxHeartbeats 400000 in
theorem clockCountC (A : Option Addr) (c : Nat) (l : List Times) (w : World) (hl : l.length ≤ maxLen) (hA : R cTimes 0 w A l) :
    Calls Try.prog 19 #[.slice A l.length c] w fun e w' => e = .returned (.int .i64 (clockCount l)) ∧ Bl w w' := by
  cases hm : clockMay l
  · have e1 : clockCount l = 0 := by unfold clockCount; rw [hm]; rfl
    have E1 := hide e1
    clear e1
    go_enter Try.func19, Try.ntmps19
    go_wp2_with (go_at_call 15; refine (clockCheck A c l _ hl hA).mono ?_; rintro e w1 ⟨rfl, hb⟩; rw [hm, okOr_false])
    go_ret
    exact ⟨ret_int E1.out.symm, hb⟩
  · have e1 : clockCount l = clockMany l := by unfold clockCount; rw [hm]; rfl
    have hlen : l.length ≤ 8 := clockMay_length hm
    have hall := hide (clockFrom_all _ (show clockFrom (-1) l = true from hm))
    have E1 := hide e1
    clear e1
    go_enter Try.func19, Try.ntmps19
    go_wp2_with (go_at_call 15; refine (clockCheck A c l _ hl hA).mono ?_; rintro e w1 ⟨rfl, hb⟩; rw [hm, okOr_true])
    have hm := hide hm
    go_loopw [2, 10] (fun n i wr => Bl w wr ∧ ∃ (k : Nat) (s : Int), k ≤ l.length ∧ i = .int .i64 k ∧ n = .int .i64 s ∧ 0 ≤ s ∧ s ≤ 1099511627776 * k ∧ Hid (clockMany l = s + clockMany (l.drop k))) (fun _ i _ => l.length - (intOf i).toNat)
    case atStart => exact ⟨hb, 0, 0, Nat.zero_le _, rfl, rfl, by omega, by omega, by simp [Hid]⟩
    case round =>
      obtain ⟨hbl, k, s, hk, rfl, rfl, hs0, hs1, hf⟩ := hrel
      by_cases hlt : k < l.length
      · have hR := hA.bl hbl
        obtain ⟨b, off, rfl, _, hb⟩ := hR.addr (by omega)
        obtain ⟨x, hx⟩ := get_lt hlt
        obtain ⟨_, ho, B, d, hcd, hdm, c0, c1, hB⟩ := hR.times hx
        have hd := hide (drop_cons hx)
        have hxm := hall.out x (List.mem_of_getElem? hx)
        have hcnt : spansCount x.s = spansMany x.s := by unfold spansCount; rw [hxm]; rfl
        have hcnt := hide hcnt
        obtain ⟨hn0, hn1⟩ := spansMay_many hxm
        clear hx hxm
        go_wp2_with (go_at_call 76; refine (spanCount B d x.s _ (by omega) (hB.bl ((Bl.refl _).alloc _))).mono ?_; rintro e w1 ⟨rfl, hb1⟩; rw [hcnt.out])
        go_roundw
        case rel => exact ⟨(hbl.alloc _).trans hb1, k + 1, s + spansMany x.s, by omega, by go_num, rfl, by omega, by push_cast; omega, by rw [Hid, hf.out, hd.out, clockMany]; omega⟩
        case measure => simp [intOf]; omega
      · have hkl : l.length ≤ k := by omega
        go_wp2
        go_ret
        exact ⟨ret_int (by rw [E1.out, hf.out, List.drop_eq_nil_of_le hkl]; simp [clockMany]), hbl⟩
end Go.Proofs.Ytkolimhkfiebeaa

/-
  The walks of package clock that make no sets.
  The walks of the references of layer 7.
  The walks of clock.Twin, and of the reference's.
  The walks of clock.Ids, and of the references All, Ids.
  The walks of the references of layer 8.
  The walks of the references May and Ids of layer 8.
-/
import Derived.Test.YtkolimhkfiebeaaSpan
namespace Go.Proofs.Ytkolimhkfiebeaa
open Go.RowKit

/-! ### Plain -/
def clockFrom (last : Int) : List Times → Bool
  | [] => true
  | x :: l => decide (last < x.r) && decide (x.r < 8) && decide (1 ≤ x.s.length) && spansMay x.s && clockFrom x.r l
/-- May a clock be? -/
def clockMay (l : List Times) : Bool := clockFrom (-1) l
theorem clockFrom_bad {l rest : List Times} {last : Int} {k : Nat} {x : Times} (h : clockMay l = clockFrom last (l.drop k)) (hd : l.drop k = x :: rest) (hb : ¬ (last < x.r ∧ x.r < 8 ∧ 1 ≤ x.s.length ∧ spansMay x.s = true)) : clockMay l = false := by
  rw [h, hd, clockFrom]
  by_cases h1 : last < x.r <;> by_cases h2 : x.r < 8 <;> by_cases h3 : 1 ≤ x.s.length <;> cases h4 : spansMay x.s <;> simp_all <;> intros <;> omega
theorem clockFrom_good {l rest : List Times} {last : Int} {k : Nat} {x : Times} (h : clockMay l = clockFrom last (l.drop k)) (hd : l.drop k = x :: rest) (h1 : last < x.r) (h2 : x.r < 8) (h3 : 1 ≤ x.s.length) (h4 : spansMay x.s = true) : clockMay l = clockFrom x.r rest := by
  rw [h, hd, clockFrom]
  simp [h1, h2, h3, h4]

set_option maxHeartbeats 400000 in
theorem clockCheck (A : Option Addr) (c : Nat) (l : List Times) (w : World) (hl : l.length ≤ maxLen) (hA : R cTimes 0 w A l) :
    Calls Try.prog 15 #[.slice A l.length c] w fun e w' => e = .returned (.int .i64 (okOr 8 (clockMay l))) ∧ Bl w w' := by
  unfold maxLen at hl
  go_enter Try.func15, Try.ntmps15
  go_wp2
  go_loopw [3, 8] (fun t i wr => Bl w wr ∧ ∃ (k : Nat) (last : Int), k ≤ l.length ∧ i = .int .i64 k ∧ t = .int .i64 last ∧ -1 ≤ last ∧ last ≤ 255 ∧ Hid (clockMay l = clockFrom last (l.drop k))) (fun _ i _ => l.length - (intOf i).toNat)
  case atStart => exact ⟨Bl.refl _, 0, -1, Nat.zero_le _, rfl, rfl, by omega, by omega, rfl⟩
  case round =>
    obtain ⟨hbl, k, last, hk, rfl, rfl, hl0, hl1, hf⟩ := hrel
    by_cases hlt : k < l.length
    · have hR := hA.bl hbl
      obtain ⟨b, off, rfl, _, hb⟩ := hR.addr (by omega)
      obtain ⟨x, hx⟩ := get_lt hlt
      obtain ⟨_, ho, B, d, hcd, hdm, c0, c1, hB⟩ := hR.times hx
      have hd := hide (drop_cons hx)
      clear hx
      obtain ⟨o0, o1⟩ := ho
      have hsl : x.s.length ≤ maxLen := by omega
      have hsl' : x.s.length ≤ 9223372036854775807 := by unfold maxLen at hsl; omega
      cases hm : spansMay x.s
      · have hm' := hide hm
        go_wp2_with (go_at_call 69; refine (spanCheck B d x.s _ hsl (hB.bl ((Bl.refl _).alloc _))).mono ?_; rintro e w1 ⟨rfl, hb1⟩; rw [hm, okOr_false])
        all_goals
          go_ret
          refine ⟨ret_int (by rw [clockFrom_bad hf.out hd.out (by rw [hm'.out]; simp)]; rfl), ?_⟩
          first | exact hbl.alloc _ | exact (hbl.alloc _).trans hb1
      · have hm' := hide hm
        go_wp2_with (go_at_call 69; refine (spanCheck B d x.s _ hsl (hB.bl ((Bl.refl _).alloc _))).mono ?_; rintro e w1 ⟨rfl, hb1⟩; rw [hm, okOr_true]; have hc1 := hb1.cells)
        all_goals first
          | (go_roundw
             case rel => exact ⟨(hbl.alloc _).trans hb1, k + 1, x.r, by omega, by go_num, rfl, by omega, by omega, clockFrom_good hf.out hd.out (by omega) (by omega) (by omega) hm'.out⟩
             case measure => simp [intOf]; omega)
          | (go_ret
             exact ⟨ret_int (by rw [clockFrom_bad hf.out hd.out (by omega)]; rfl), hbl.alloc _⟩)
    · have hkl : l.length ≤ k := by omega
      go_wp2
      go_ret
      exact ⟨ret_int (by rw [hf.out, List.drop_eq_nil_of_le hkl]; rfl), hbl⟩

/-! ### Equality -/
def eqTimes (x y : Times) : Bool := decide (x = y)
theorem eqTimes_true {x y : Times} (h : eqTimes x y = true) : x = y := by unfold eqTimes at h; simpa using h
theorem eqTimes_false {x y : Times} (h : eqTimes x y = false) : x ≠ y := by unfold eqTimes at h; simpa using h
theorem eqTimes_parts (x y : Times) : eqTimes x y = (x.r == y.r && same x.s y.s) := by
  cases x; cases y
  unfold eqTimes same
  rw [Bool.eq_iff_iff]
  simp

set_option maxHeartbeats 400000 in
theorem clockSame1 (x y : Times) (A B : Option Addr) (c d : Nat) (w : World) (hl : x.s.length ≤ maxLen) (hm : y.s.length ≤ maxLen) (hA : R cSpan 0 w A x.s) (hB : R cSpan 0 w B y.s) :
    Calls Try.prog 74 #[.agg #[.int .u8 x.r, .slice A x.s.length c], .agg #[.int .u8 y.r, .slice B y.s.length d]] w fun e w' => e = .returned (.bool (eqTimes x y)) ∧ Bl w w' := by
  have hp := eqTimes_parts x y
  by_cases h : x.r = y.r
  · have e1 : (x.r == y.r) = true := by simp [h]
    rw [e1, Bool.true_and] at hp
    have hp := hide hp
    have h' := hide h
    clear h
    go_enter Try.func74, Try.ntmps74
    go_wp2_with (go_at_call 75; refine (spanSame A B c d x.s y.s _ hl hm (hA.bl (((Bl.refl _).alloc _).alloc _)) (hB.bl (((Bl.refl _).alloc _).alloc _))).mono ?_; rintro e w1 ⟨rfl, hb1⟩)
    go_ret
    exact ⟨ret_bool hp.out.symm, (((Bl.refl _).alloc _).alloc _).trans hb1⟩
  · have e1 : (x.r == y.r) = false := by simp [h]
    rw [e1, Bool.false_and] at hp
    have hp := hide hp
    clear h
    go_enter Try.func74, Try.ntmps74
    go_wp2
    go_ret
    exact ⟨ret_bool hp.out.symm, ((Bl.refl _).alloc _).alloc _⟩

set_option maxHeartbeats 400000 in
theorem clockEqualFunc (A B : Option Addr) (c d : Nat) (l m : List Times) (w : World) (hl : l.length ≤ maxLen) (_hm : m.length ≤ maxLen) (hA : R cTimes 0 w A l) (hB : R cTimes 0 w B m) :
    Calls Try.prog 73 #[.slice A l.length c, .slice B m.length d, .func (.func 74) #[] #[]] w fun e w' => e = .returned (.bool (same l m)) ∧ Bl w w' := by
  unfold maxLen at hl
  by_cases hne : l.length = m.length
  · have hne1 : ((l.length : Int) != (m.length : Int)) = false := by simp [hne]
    have hle : l.length ≤ m.length := by omega
    have hle' : m.length ≤ l.length := by omega
    clear hne
    go_enter Try.func73, Try.ntmps73
    go_wp2
    go_loopw [17] (fun i wr => Bl w wr ∧ ∃ k : Nat, k ≤ l.length ∧ i = .int .i64 k ∧ Hid (decide (l = m) = decide (l.drop k = m.drop k))) (fun i _ => l.length - (intOf i).toNat)
    case atStart => exact ⟨Bl.refl _, 0, Nat.zero_le _, rfl, rfl⟩
    case round =>
      obtain ⟨hbl, k, hk, rfl, hf⟩ := hrel
      by_cases hlt : k < l.length
      · have hR := hA.bl hbl
        have hS := hB.bl hbl
        obtain ⟨b, off, rfl, _, hb⟩ := hR.addr (by omega)
        obtain ⟨b', off', rfl, _, hb'⟩ := hS.addr (by omega)
        obtain ⟨x, hx⟩ := get_lt hlt
        obtain ⟨y, hy⟩ := get_lt (show k < m.length by omega)
        obtain ⟨_, ho, A1, a1, ha1, ha2, c0, c1, hA1⟩ := hR.times hx
        obtain ⟨_, ho', B1, b1, hb1, hb2, d0, d1, hB1⟩ := hS.times hy
        have hx := hide hx
        have hy := hide hy
        have hlt' : k < m.length := by omega
        have hcall := fun W (hW : Bl wr W) => clockSame1 x y A1 B1 a1 b1 W (by omega) (by omega) (hA1.bl hW) (hB1.bl hW)
        cases hq : eqTimes x y
        · have g := hide (drop_ne_step hf.out hx.out hy.out (eqTimes_false hq))
          rw [hq] at hcall
          have hcall := hide hcall
          clear hq
          go_wp2_with (go_at_call 74; refine (hcall.out _ (((Bl.refl _).alloc _).alloc _)).mono ?_; rintro e w1 ⟨rfl, hbq⟩)
          go_ret
          exact ⟨ret_bool g.out, ((hbl.alloc _).alloc _).trans hbq⟩
        · have g := hide (drop_eq_step hf.out hx.out hy.out (eqTimes_true hq))
          rw [hq] at hcall
          have hcall := hide hcall
          clear hq
          go_wp2_with (go_at_call 74; refine (hcall.out _ (((Bl.refl _).alloc _).alloc _)).mono ?_; rintro e w1 ⟨rfl, hbq⟩)
          go_roundw
          case rel => exact ⟨((hbl.alloc _).alloc _).trans hbq, k + 1, by omega, by go_num, g⟩
          case measure => simp [intOf]; omega
      · have hkl : l.length ≤ k := by omega
        go_wp2
        go_ret
        exact ⟨ret_bool (drop_eq_end hf.out hkl (by omega)), hbl⟩
  · have hne1 : ((l.length : Int) != (m.length : Int)) = true := by simp; omega
    go_enter Try.func73, Try.ntmps73
    go_wp2
    go_ret
    exact ⟨ret_bool (ne_of_length hne), Bl.refl _⟩

set_option maxHeartbeats 400000 in
theorem clockSame (A B : Option Addr) (c d : Nat) (l m : List Times) (w : World) (hl : l.length ≤ maxLen) (hm : m.length ≤ maxLen) (hA : R cTimes 0 w A l) (hB : R cTimes 0 w B m) :
    Calls Try.prog 18 #[.slice A l.length c, .slice B m.length d] w fun e w' => e = .returned (.bool (same l m)) ∧ Bl w w' := by
  go_enter Try.func18, Try.ntmps18
  go_wp2_with (go_at_call 73; refine (clockEqualFunc A B c d l m _ hl hm hA hB).mono ?_; rintro e w' ⟨rfl, hb⟩)
  go_ret
  exact ⟨rfl, hb⟩

/-! ### How many -/
def clockMany : List Times → Int
  | [] => 0
  | x :: l => spansMany x.s + clockMany l
/-- clock.Count. -/
def clockCount (l : List Times) : Int := if clockMay l then clockMany l else 0
/-- All spans of a clock may be. -/
def allMay (l : List Times) : Prop := ∀ x ∈ l, spansMay x.s = true
theorem clockFrom_all {l : List Times} : ∀ last, clockFrom last l = true → allMay l := by
  induction l with
  | nil => intro _ _ x hx; cases hx
  | cons y l ih =>
    intro last h x hx
    simp only [clockFrom, Bool.and_eq_true, decide_eq_true_eq] at h
    rcases List.mem_cons.1 hx with rfl | hx
    · exact h.1.2
    · exact ih _ h.2 x hx
theorem clockFrom_length {l : List Times} : ∀ last, -1 ≤ last → last ≤ 7 → clockFrom last l = true → (l.length : Int) ≤ 7 - last := by
  induction l with
  | nil => intro last _ h _; simp; omega
  | cons y l ih =>
    intro last h0 h7 h
    simp only [clockFrom, Bool.and_eq_true, decide_eq_true_eq] at h
    have := ih y.r (by omega) (by omega) h.2
    simp only [List.length_cons]
    omega
theorem clockMay_length {l : List Times} (h : clockMay l = true) : l.length ≤ 8 := by
  have := clockFrom_length (-1) (by omega) (by omega) h
  omega
theorem spansMay_many {l : List Span} (h : spansMay l = true) : 0 ≤ spansMany l ∧ spansMany l ≤ 1099511627776 := by
  unfold spansMay at h
  simp only [Bool.and_eq_true, decide_eq_true_eq] at h
  have := spansMany_le l 1 (by omega) h.2
  omega

set_option maxHeartbeats 400000 in
theorem clockCountC (A : Option Addr) (c : Nat) (l : List Times) (w : World) (hl : l.length ≤ maxLen) (hA : R cTimes 0 w A l) :
    Calls Try.prog 19 #[.slice A l.length c] w fun e w' => e = .returned (.int .i64 (clockCount l)) ∧ Bl w w' := by
  cases hm : clockMay l
  · have e1 : clockCount l = 0 := by unfold clockCount; rw [hm]; rfl
    have E1 := hide e1
    clear e1
    go_enter Try.func19, Try.ntmps19
    go_wp2_with (go_at_call 15; refine (clockCheck A c l _ hl hA).mono ?_; rintro e w1 ⟨rfl, hb⟩; rw [hm, okOr_false])
    go_ret
    exact ⟨ret_int E1.out.symm, hb⟩
  · have e1 : clockCount l = clockMany l := by unfold clockCount; rw [hm]; rfl
    have hlen : l.length ≤ 8 := clockMay_length hm
    have hall := hide (clockFrom_all _ (show clockFrom (-1) l = true from hm))
    have E1 := hide e1
    clear e1
    go_enter Try.func19, Try.ntmps19
    go_wp2_with (go_at_call 15; refine (clockCheck A c l _ hl hA).mono ?_; rintro e w1 ⟨rfl, hb⟩; rw [hm, okOr_true])
    have hm := hide hm
    go_loopw [2, 10] (fun n i wr => Bl w wr ∧ ∃ (k : Nat) (s : Int), k ≤ l.length ∧ i = .int .i64 k ∧ n = .int .i64 s ∧ 0 ≤ s ∧ s ≤ 1099511627776 * k ∧ Hid (clockMany l = s + clockMany (l.drop k))) (fun _ i _ => l.length - (intOf i).toNat)
    case atStart => exact ⟨hb, 0, 0, Nat.zero_le _, rfl, rfl, by omega, by omega, by simp [Hid]⟩
    case round =>
      obtain ⟨hbl, k, s, hk, rfl, rfl, hs0, hs1, hf⟩ := hrel
      by_cases hlt : k < l.length
      · have hR := hA.bl hbl
        obtain ⟨b, off, rfl, _, hb⟩ := hR.addr (by omega)
        obtain ⟨x, hx⟩ := get_lt hlt
        obtain ⟨_, ho, B, d, hcd, hdm, c0, c1, hB⟩ := hR.times hx
        have hd := hide (drop_cons hx)
        have hxm := hall.out x (List.mem_of_getElem? hx)
        have hcnt : spansCount x.s = spansMany x.s := by unfold spansCount; rw [hxm]; rfl
        have hcnt := hide hcnt
        obtain ⟨hn0, hn1⟩ := spansMay_many hxm
        clear hx hxm
        go_wp2_with (go_at_call 76; refine (spanCount B d x.s _ (by omega) (hB.bl ((Bl.refl _).alloc _))).mono ?_; rintro e w1 ⟨rfl, hb1⟩; rw [hcnt.out])
        go_roundw
        case rel => exact ⟨(hbl.alloc _).trans hb1, k + 1, s + spansMany x.s, by omega, by go_num, rfl, by omega, by push_cast; omega, by rw [Hid, hf.out, hd.out, clockMany]; omega⟩
        case measure => simp [intOf]; omega
      · have hkl : l.length ≤ k := by omega
        go_wp2
        go_ret
        exact ⟨ret_int (by rw [E1.out, hf.out, List.drop_eq_nil_of_le hkl]; simp [clockMany]), hbl⟩
end Go.Proofs.Ytkolimhkfiebeaa

namespace Go.Proofs.Ytkolimhkfiebeaa
open Go.RowKit

set_option maxHeartbeats 400000 in
theorem refTwin07 (A : Option Addr) (c : Nat) (l : List Span) (w : World) (hl : l.length ≤ 1048576) (hA : R cSpan 0 w A l) :
    Calls Try.prog 208 #[.slice A l.length c] w (New cSpan l w) := by
  obtain ⟨i0, hi, hz0, hz1, hz2⟩ := info_parts Try.infoSpan
  go_enter Try.func208, Try.ntmps208
  go_wp2_with (at_builtin
               refine wpList_append_any2 (C := cSpan) (xs := []) (ys := l) rfl (.tmp 4) (.tmp 5) _ rfl 93 i0 _ 8 Try.underlying94 hi hz0 hz1 hz2 rfl (.slice none 0 0) w.heap.size rfl Own.nil A l.length c rfl rfl (hA.source flatSpan) ?c1 ?c2 ?c3 ?_
               case c1 => simp only [List.length_nil, maxLen]; omega
               case c2 => simp only [List.length_nil]; omega
               case c3 => exact Nat.le_refl _
               intro v1 w1 hown hg _)
  go_ret
  have hbl := (Bl.refl w).app (Own.nil (C := cSpan) (e := 93)) (Nat.le_refl _) hg
  simp only [List.nil_append] at hown
  obtain ⟨A', c', rfl, hr, h1, h2⟩ := hown.reads
  exact ⟨A', c', rfl, h1, h2, hr, hbl⟩

set_option maxHeartbeats 400000 in
theorem refSame07 (A B : Option Addr) (c d : Nat) (l m : List Span) (w : World) (hl : l.length ≤ maxLen) (_hm : m.length ≤ maxLen) (hA : R cSpan 0 w A l) (hB : R cSpan 0 w B m) :
    Calls Try.prog 108 #[.slice A l.length c, .slice B m.length d] w fun e w' => e = .returned (.bool (same l m)) ∧ Bl w w' := by
  unfold maxLen at hl
  by_cases hne : l.length = m.length
  · have hne1 : ((l.length : Int) != (m.length : Int)) = false := by simp [hne]
    have hle : l.length ≤ m.length := by omega
    have hle' : m.length ≤ l.length := by omega
    clear hne
    go_enter Try.func108, Try.ntmps108
    go_wp2
    go_loopw [5] (fun i wr => Bl w wr ∧ ∃ k : Nat, k ≤ l.length ∧ i = .int .i64 k ∧ Hid (decide (l = m) = decide (l.drop k = m.drop k))) (fun i _ => l.length - (intOf i).toNat)
    case atStart => exact ⟨Bl.refl _, 0, Nat.zero_le _, rfl, rfl⟩
    case round =>
      obtain ⟨hbl, k, hk, rfl, hf⟩ := hrel
      by_cases hlt : k < l.length
      · have hR := hA.bl hbl
        have hS := hB.bl hbl
        obtain ⟨b, off, rfl, _, hb⟩ := hR.addr (by omega)
        obtain ⟨b', off', rfl, _, hb'⟩ := hS.addr (by omega)
        obtain ⟨x, hx⟩ := get_lt hlt
        obtain ⟨y, hy⟩ := get_lt (show k < m.length by omega)
        obtain ⟨_, ho, c0, c1⟩ := hR.span hx
        obtain ⟨_, ho', d0, d1⟩ := hS.span hy
        have C0 := fun p : Wd wr => Wd.cell c0 hb p
        have C1 := fun p : Wd wr => Wd.cell c1 hb p
        have D0 := fun p : Wd wr => Wd.cell d0 hb' p
        have D1 := fun p : Wd wr => Wd.cell d1 hb' p
        clear c0 c1 d0 d1
        have hx := hide hx
        have hy := hide hy
        have hi : (k : Int) < (l.length : Int) := by omega
        have hi' : (k : Int) < (m.length : Int) := by omega
        have hne := run_neqSpan x y
        cases hq : neqSpan x y
        · have g := hide (drop_eq_step hf.out hx.out hy.out (neqSpan_false hq))
          rw [hq] at hne
          clear hq
          go_wp2
          (refine wp_region_wd (by kernel_rfl) (by kernel_rfl) ?_
           repeat (go_big_quiet_step ((fail)))
           refine wpQuiet_nil ?_
           intro w2 hw'
           obtain ⟨⟨wx, hb2⟩, hw''⟩ := hw'
           subst hw'')
          go_wp2
          go_roundw
          case rel => exact ⟨hbl.trans hb2, k + 1, by omega, by go_num, g⟩
          case measure => simp [intOf]; omega
        · have g := hide (drop_ne_step hf.out hx.out hy.out (neqSpan_true hq))
          rw [hq] at hne
          clear hq
          go_wp2
          (refine wp_region_wd (by kernel_rfl) (by kernel_rfl) ?_
           repeat (go_big_quiet_step ((fail)))
           refine wpQuiet_nil ?_
           intro w2 hw'
           obtain ⟨⟨wx, hb2⟩, hw''⟩ := hw'
           subst hw'')
          go_wp2
          go_ret
          exact ⟨ret_bool g.out, hbl.trans hb2⟩
      · have hkl : l.length ≤ k := by omega
        go_wp2
        go_ret
        exact ⟨ret_bool (drop_eq_end hf.out hkl (by omega)), hbl⟩
  · have hne1 : ((l.length : Int) != (m.length : Int)) = true := by simp; omega
    go_enter Try.func108, Try.ntmps108
    go_wp2
    go_ret
    exact ⟨ret_bool (ne_of_length hne), Bl.refl _⟩

end Go.Proofs.Ytkolimhkfiebeaa


namespace Go.Proofs.Ytkolimhkfiebeaa
open Go.RowKit

def smallC (l : List Times) : Prop := l.length ≤ 1048576 ∧ ∀ x ∈ l, x.s.length ≤ 1048576
theorem Try.infoTimes : (Try.prog.info? 96).map (fun i => (i.zero, i.size, i.bytes)) = some (some (.agg #[.int .u8 0, .slice none 0 0]), 2, 32) := by kernel_rfl

end Go.Proofs.Ytkolimhkfiebeaa


namespace Go.Proofs.Ytkolimhkfiebeaa
open Go.RowKit

/-! ### Plain -/
def idsN (r t : Int) : Nat → List Id
  | 0 => []
  | n + 1 => ⟨t, r⟩ :: idsN r (t + 1) n
/-- The stamps of a replica from time t to u. -/
def idsFrom (r t u : Int) : List Id := idsN r t (u + 1 - t).toNat
def spansIds (r : Int) : List Span → List Id
  | [] => []
  | x :: l => idsFrom r x.f x.t ++ spansIds r l
/-- All stamps of a clock. -/
def clockAll : List Times → List Id
  | [] => []
  | x :: l => spansIds x.r x.s ++ clockAll l
theorem idsFrom_cons {r t u : Int} (h : t ≤ u) : idsFrom r t u = ⟨t, r⟩ :: idsFrom r (t + 1) u := by
  unfold idsFrom
  rw [show (u + 1 - t).toNat = (u + 1 - (t + 1)).toNat + 1 by omega, idsN]
theorem idsFrom_nil {r t u : Int} (h : u < t) : idsFrom r t u = [] := by
  unfold idsFrom
  rw [show (u + 1 - t).toNat = 0 by omega]; rfl
theorem idsN_length (r t : Int) (n : Nat) : (idsN r t n).length = n := by
  induction n generalizing t with
  | zero => rfl
  | succ n ih => simp [idsN, ih]
theorem spansIds_length (r : Int) (l : List Span) : ∀ least, spansFrom least l = true → ((spansIds r l).length : Int) = spansMany l := by
  induction l with
  | nil => intro _ _; rfl
  | cons x l ih =>
    intro least h
    simp only [spansFrom, Bool.and_eq_true, decide_eq_true_eq] at h
    have := ih _ h.2
    simp only [spansIds, List.length_append, spansMany, idsFrom, idsN_length]
    omega
theorem spansMay_from {l : List Span} (h : spansMay l = true) : spansFrom 1 l = true := by
  unfold spansMay at h
  simp only [Bool.and_eq_true, decide_eq_true_eq] at h
  exact h.2
theorem clockAll_length (l : List Times) (h : allMay l) : ((clockAll l).length : Int) = clockMany l := by
  induction l with
  | nil => rfl
  | cons x l ih =>
    have h1 := spansIds_length x.r x.s 1 (spansMay_from (h x (by simp)))
    have h2 := ih (fun y hy => h y (by simp [hy]))
    simp only [clockAll, List.length_append, clockMany]
    omega
/-- clock.Ids: what it hands back, and the error. -/
def clockIdsErr (l : List Times) : Int := if clockMay l then (if clockMany l ≤ 1024 then 0 else 4) else 8
def clockIds (l : List Times) : List Id := if clockMay l then (if clockMany l ≤ 1024 then clockAll l else []) else []

theorem flatId : ∀ {w : World} {S : Nat → Prop} {x : Id} {cs : List Value}, cId.rd w S x cs → ∀ S', cId.rd w S' x cs := fun h _ => h
theorem Try.infoId : (Try.prog.info? 36).map (fun i => (i.zero, i.size, i.bytes)) = some (some (.agg #[.int .u32 0, .int .u8 0]), 2, 8) := by kernel_rfl

/-- What a call that hands back a new list, and a number, says. -/
def New2 {α : Type} (C : Codec α) (l : List α) (n : Int) (w : World) (e : Ending) (w' : World) : Prop := ∃ A c, e = .returned (.tuple #[.slice A l.length c, .int .i64 n]) ∧ l.length ≤ c ∧ c ≤ maxLen ∧ R C w.heap.size w' A l ∧ Bl w w'

set_option maxRecDepth 100000 in
set_option maxHeartbeats 1000000 in
theorem clockIdsC (A : Option Addr) (c : Nat) (l : List Times) (w : World) (hl : l.length ≤ maxLen) (hA : R cTimes 0 w A l) :
    Calls Try.prog 35 #[.slice A l.length c] w (New2 cId (clockIds l) (clockIdsErr l) w) := by
  cases hm : clockMay l
  · have e1 : clockIds l = [] := by unfold clockIds; rw [hm]; rfl
    have e2 : clockIdsErr l = 8 := by unfold clockIdsErr; rw [hm]; rfl
    rw [e1, e2]
    clear e1 e2
    go_enter Try.func35, Try.ntmps35
    go_wp2_with (go_at_call 15; refine (clockCheck A c l _ hl hA).mono ?_; rintro e w1 ⟨rfl, hb⟩; rw [hm, okOr_false])
    go_ret2
    exact ⟨none, 0, rfl, Nat.le_refl _, by unfold maxLen; omega, R.nil, hb⟩
  have hcount : clockCount l = clockMany l := by unfold clockCount; rw [hm]; rfl
  have hlen : l.length ≤ 8 := clockMay_length hm
  have hall := hide (clockFrom_all _ (show clockFrom (-1) l = true from hm))
  by_cases hbig : 1024 < clockMany l
  · have e1 : clockIds l = [] := by unfold clockIds; rw [hm, if_pos rfl, if_neg (by omega)]
    have e2 : clockIdsErr l = 4 := by unfold clockIdsErr; rw [hm, if_pos rfl, if_neg (by omega)]
    rw [e1, e2]
    clear e1 e2
    have hcount := hide hcount
    go_enter Try.func35, Try.ntmps35
    go_wp2_with (first | (go_at_call 15; refine (clockCheck A c l _ hl hA).mono ?_; rintro e w1 ⟨rfl, hb⟩; rw [hm, okOr_true]) | (go_at_call 19; refine (clockCountC A c l _ hl (hA.bl hb)).mono ?_; rintro e w2 ⟨rfl, hb2⟩; rw [hcount.out]))
    go_ret2
    exact ⟨none, 0, rfl, Nat.le_refl _, by unfold maxLen; omega, R.nil, hb.trans hb2⟩
  · have e1 : clockIds l = clockAll l := by unfold clockIds; rw [hm, if_pos rfl, if_pos (by omega)]
    have e2 : clockIdsErr l = 0 := by unfold clockIdsErr; rw [hm, if_pos rfl, if_pos (by omega)]
    rw [e1, e2]
    clear e1 e2
    have htot : (clockAll l).length ≤ 1024 := by have := clockAll_length l hall.out; omega
    have hcount := hide hcount
    have hbig : clockMany l ≤ 1024 := by omega
    obtain ⟨i0, hi, hz0, hz1, hz2⟩ := info_parts Try.infoId
    go_enter Try.func35, Try.ntmps35
    go_wp2_with (first | (go_at_call 15; refine (clockCheck A c l _ hl hA).mono ?_; rintro e w1 ⟨rfl, hb⟩; rw [hm, okOr_true]) | (go_at_call 19; refine (clockCountC A c l _ hl (hA.bl hb)).mono ?_; rintro e w2 ⟨rfl, hb2⟩; rw [hcount.out]))
    go_loopw [2, 20] (fun v i wr => Bl w wr ∧ ∃ (k : Nat) (pre : List Id), k ≤ l.length ∧ i = .int .i64 k ∧ Own cId 36 w.heap.size wr v pre ∧ Hid (clockAll l = pre ++ clockAll (l.drop k))) (fun _ i _ => l.length - (intOf i).toNat)
    case atStart => exact ⟨hb.trans hb2, 0, [], Nat.zero_le _, rfl, Own.nil, rfl⟩
    case round =>
      obtain ⟨hbl, k, pre, hk, rfl, hown, hf⟩ := hrel
      obtain ⟨wo, rfl⟩ : ∃ wo : World, wo = wr := ⟨_, rfl⟩
      obtain ⟨vo, rfl⟩ : ∃ vo : Value, vo = u2 := ⟨_, rfl⟩
      by_cases hlt : k < l.length
      · obtain ⟨b, off, rfl, _, hbw⟩ := hA.addr (by omega)
        obtain ⟨x, hx⟩ := get_lt hlt
        obtain ⟨_, ho, B, d, hcd, hdm, c0, c1, hB⟩ := hA.times hx
        have c0 := (hbl.cell hbw).trans c0
        have c1 := (hbl.cell hbw).trans c1
        have hd := hide (drop_cons hx)
        have hxm := hall.out x (List.mem_of_getElem? hx)
        have hfr := hide (spansMay_from hxm)
        clear hx hxm
        have hxl : x.s.length ≤ 9223372036854775807 := by unfold maxLen at hdm; omega
        go_wp2
        obtain ⟨W1, hW1⟩ : ∃ W, W = wo.alloc (Obj.cells #[Value.int IntKind.u8 x.r, Value.slice B x.s.length d] 96) := ⟨_, rfl⟩
        rw [← hW1]
        have hblW : Bl wo W1 := by rw [hW1]; exact (Bl.refl _).alloc _
        have q0 := hide (show W1.cell? ⟨wo.heap.size, 0, none⟩ = some (.int .u8 x.r) by rw [hW1]; simp)
        have hWs : wo.heap.size < W1.heap.size := by rw [hW1]; simp
        clear hW1
        have hne := fun e => Nat.lt_irrefl _ (hown.lt (b := wo.heap.size) e).2
        have hbl1 := hbl.trans hblW
        have hown := hown.bl hblW
        have hf1 : Hid (clockAll l = pre ++ (spansIds x.r (x.s.drop 0) ++ clockAll (l.drop (k + 1)))) := by rw [Hid, hf.out, hd.out, clockAll]; rfl
        clear c0 c1
        go_loopw [2, 27] (fun v i w3 => Bl w w3 ∧ Far W1 vo w3 v ∧ ∃ (j : Nat) (pre2 : List Id) (least : Int), j ≤ x.s.length ∧ i = .int .i64 j ∧ Own cId 36 w.heap.size w3 v pre2 ∧ Hid (spansFrom least (x.s.drop j) = true) ∧ Hid (clockAll l = pre2 ++ (spansIds x.r (x.s.drop j) ++ clockAll (l.drop (k + 1)))) ∧ 1 ≤ least) (fun _ i _ => x.s.length - (intOf i).toNat)
        case atStart => exact ⟨hbl1, Far.refl _ _, 0, pre, 1, Nat.zero_le _, rfl, hown, hfr.out, hf1, by omega⟩
        case round =>
          obtain ⟨hbl3, hfar3, j, pre2, least, hj, rfl, hown3, hsf, hf3, hle1⟩ := hrel
          obtain ⟨wm, rfl⟩ : ∃ wm : World, wm = wr := ⟨_, rfl⟩
          obtain ⟨vm, rfl⟩ : ∃ vm : Value, vm = u2 := ⟨_, rfl⟩
          by_cases hjl : j < x.s.length
          · obtain ⟨b2, off2, rfl, _, hb2'⟩ := hB.addr (by omega)
            obtain ⟨y, hy⟩ := get_lt hjl
            obtain ⟨_, hyo, d0, d1⟩ := hB.span hy
            have d0 := (hbl3.cell hb2').trans d0
            have d1 := (hbl3.cell hb2').trans d1
            have hdy := hide (drop_cons hy)
            clear hy
            obtain ⟨o0, o1, o2, o3⟩ := hyo
            have hx : least ≤ y.f ∧ y.f ≤ y.t ∧ y.t ≤ 1073741824 ∧ spansFrom (y.t + 2) (x.s.drop (j + 1)) = true := by
              have := hsf.out
              rw [hdy.out, spansFrom] at this
              simp only [Bool.and_eq_true, decide_eq_true_eq] at this
              exact ⟨this.1.1.1, this.1.1.2, this.1.2, this.2⟩
            obtain ⟨x0, x1, x2, x3⟩ := hx
            have x3 := hide x3
            go_wp2
            obtain ⟨W2, hW2⟩ : ∃ W, W = wm.alloc (Obj.cells #[Value.int IntKind.u32 y.f, Value.int IntKind.u32 y.t] 93) := ⟨_, rfl⟩
            rw [← hW2]
            have hblW2 : Bl wm W2 := by rw [hW2]; exact (Bl.refl _).alloc _
            have p1 := hide (show W2.cell? ⟨wm.heap.size, 1, none⟩ = some (.int .u32 y.t) by rw [hW2]; simp)
            have hWs2 : wm.heap.size < W2.heap.size := by rw [hW2]; simp
            clear hW2
            have hne2 := fun e => Nat.lt_irrefl _ (hown3.lt (b := wm.heap.size) e).2
            have hbl4 := hbl3.trans hblW2
            have hown3 := hown3.bl hblW2
            have hfar3 := hfar3.bl hblW2
            have hf4 : Hid (clockAll l = pre2 ++ (idsFrom x.r y.f y.t ++ (spansIds x.r (x.s.drop (j + 1)) ++ clockAll (l.drop (k + 1))))) := by rw [Hid, hf3.out, hdy.out, spansIds, List.append_assoc]
            clear d0 d1
            go_loopw [2, 9] (fun v t w5 => Bl w w5 ∧ Far W1 vo w5 v ∧ Far W2 vm w5 v ∧ ∃ (tt : Int) (pre3 : List Id), t = .int .u32 tt ∧ y.f ≤ tt ∧ tt ≤ y.t + 1 ∧ Own cId 36 w.heap.size w5 v pre3 ∧ Hid (clockAll l = pre3 ++ (idsFrom x.r tt y.t ++ (spansIds x.r (x.s.drop (j + 1)) ++ clockAll (l.drop (k + 1))))) ) (fun _ t _ => (y.t + 1 - intOf t).toNat)
            case atStart => exact ⟨hbl4, hfar3, Far.refl _ _, y.f, pre2, rfl, by omega, by omega, hown3, hf4⟩
            case round =>
              obtain ⟨hbl5, hfar5, hfar6, tt, pre3, rfl, ht0, ht1, hown5, hf5⟩ := hrel
              have q1 : wr.cell? ⟨wo.heap.size, 0, none⟩ = some (.int .u8 x.r) := (hfar5.cell hWs hne).trans q0.out
              have p2 : wr.cell? ⟨wm.heap.size, 1, none⟩ = some (.int .u32 y.t) := (hfar6.cell hWs2 hne2).trans p1.out
              by_cases htl : tt ≤ y.t
              · have hlen3 : pre3.length + 1 ≤ 1024 := by
                  have := congrArg List.length hf5.out
                  rw [idsFrom_cons htl] at this
                  simp only [List.length_append, List.length_cons] at this
                  omega
                have hWs5 : wo.heap.size < wr.heap.size := Nat.lt_of_lt_of_le hWs hfar5.1
                have hWs6 : wm.heap.size < wr.heap.size := Nat.lt_of_lt_of_le hWs2 hfar6.1
                have hf6 : Hid (clockAll l = (pre3 ++ [⟨tt, x.r⟩]) ++ (idsFrom x.r (tt + 1) y.t ++ (spansIds x.r (x.s.drop (j + 1)) ++ clockAll (l.drop (k + 1))))) := by rw [Hid, hf5.out, idsFrom_cons htl]; simp
                have hido : Id.ok ⟨tt, x.r⟩ := ⟨show (0 : Int) ≤ tt by omega, show tt < 4294967296 by omega, ho.1, ho.2⟩
                go_wp2_with (at_builtin
                             (refine wpList_append_any2 (C := cId) (xs := pre3) (ys := [⟨tt, x.r⟩]) rfl (.tmp 39) (.tmp 44) _ rfl 36 i0 _ 8 Try.underlying39 hi hz0 hz1 hz2 rfl _ w.heap.size rfl (hown5.bl ((Bl.refl _).alloc _)) (some ⟨wr.heap.size, 0, none⟩) 1 _ rfl rfl (hown5.src (cs := [Value.int IntKind.u32 tt, Value.int IntKind.u8 x.r]) (Bl.refl _) hbl5.size ⟨hido, rfl⟩) ?c1 ?c2 ?c3 ?_)
                             case c1 => simp [maxLen]; omega
                             case c2 => simp; omega
                             case c3 => have := hbl5.size; simp; omega
                             intro v7 w7 hown7 hg7 hfar7)
                have hbl7 : Bl w w7 := (hbl5.alloc _).app (hown5.bl ((Bl.refl _).alloc _)) (Nat.le_refl _) hg7
                have hfar8 := (Far.bl (Far.refl wr _) ((Bl.refl _).alloc _)).trans hfar7
                go_roundw
                case rel => exact ⟨hbl7, hfar5.trans hfar8, hfar6.trans hfar8, tt + 1, _, rfl, by omega, by omega, hown7, hf6⟩
                case measure => simp [intOf]; omega
              · go_wp2
                go_roundw
                case rel => exact ⟨hbl5, hfar5, j + 1, pre3, y.t + 2, by omega, by go_num, hown5, x3.out, by rw [Hid, hf5.out, idsFrom_nil (by omega)]; rfl, by omega⟩
                case measure => simp [intOf]; omega
          · have hkl : x.s.length ≤ j := by omega
            go_wp2
            go_roundw
            case rel => exact ⟨hbl3, k + 1, pre2, by omega, by go_num, hown3, by rw [Hid, hf3.out, List.drop_eq_nil_of_le hkl]; simp [spansIds]⟩
            case measure => simp [intOf]; omega
      · have hkl : l.length ≤ k := by omega
        go_wp2
        go_ret2
        have hfin : pre = clockAll l := by rw [hf.out, List.drop_eq_nil_of_le hkl]; simp [clockAll]
        subst hfin
        obtain ⟨A', c', rfl, hr, h1, h2⟩ := hown.reads
        exact ⟨A', c', rfl, h1, h2, hr, hbl⟩
end Go.Proofs.Ytkolimhkfiebeaa

namespace Go.Proofs.Ytkolimhkfiebeaa
open Go.RowKit

/-- At most 300 spans, at most 300 marks. -/
def few (l : List Times) : Prop := l.length ≤ 300 ∧ ∀ x ∈ l, x.s.length ≤ 300
def GreatPost (l : List Times) (w : World) (e : Ending) (w' : World) : Prop := ∃ b, e = .returned (.bool b) ∧ (b = false → few l) ∧ Bl w w'

set_option maxRecDepth 100000 in
set_option maxHeartbeats 400000 in
theorem refGreat08 (A : Option Addr) (c : Nat) (l : List Times) (w : World) (hl : l.length ≤ 140737488355328) (hs : ∀ x ∈ l, x.s.length ≤ 140737488355328) (hA : R cTimes 0 w A l) :
    Calls Try.prog 14 #[.slice A l.length c] w (GreatPost l w) := by
  have hs := hide hs
  go_enter Try.func14, Try.ntmps14
  go_wp2
  go_loopw [3, 4] (fun n i wr => Bl w wr ∧ ∃ (k s : Nat), k ≤ l.length ∧ k ≤ 300 ∧ i = .int .i64 k ∧ n = .int .i64 s ∧ s ≤ 300 ∧ Hid (∀ x ∈ l.take k, x.s.length ≤ 300)) (fun _ i _ => l.length - (intOf i).toNat)
  case atStart => exact ⟨Bl.refl _, 0, 0, Nat.zero_le _, Nat.zero_le _, rfl, rfl, Nat.zero_le _, by simp [Hid]⟩
  case round =>
    obtain ⟨hbl, k, s, hk, hk3, rfl, rfl, hs1, hf⟩ := hrel
    by_cases hlt : k < l.length ∧ k < 300
    · obtain ⟨hlt, hlt3⟩ := hlt
      have hR := hA.bl hbl
      obtain ⟨b, off, rfl, _, hb⟩ := hR.addr (by omega)
      obtain ⟨x, hx⟩ := get_lt hlt
      obtain ⟨_, ho, B, d, hcd, hdm, c0, c1, hB⟩ := hR.times hx
      have hd := hide (take_snoc hx)
      have hxs := hs.out x (List.mem_of_getElem? hx)
      clear hx
      by_cases hbg : 300 < s + x.s.length
      · have hbg' : decide ((300 : Int) < (s : Int) + (x.s.length : Int)) = true := by simp; omega
        go_wp2
        go_ret
        exact ⟨true, rfl, fun h => (by cases h), hbl⟩
      · have hbg' : (s : Int) + (x.s.length : Int) ≤ 300 := by omega
        have hbg := hide hbg
        go_wp2
        go_roundw
        case rel => exact ⟨hbl, k + 1, s + x.s.length, by omega, by omega, by go_num, by go_num, by omega, by
          rw [Hid, hd.out]
          intro y hy
          rcases List.mem_append.1 hy with h | h
          · exact hf.out y h
          · simp at h; subst h; omega⟩
        case measure => simp [intOf]; omega
    · by_cases hk' : k < l.length
      · have h300 : ¬ k < 300 := fun h => hlt ⟨hk', h⟩
        have hbg : decide ((300 : Int) < (l.length : Int)) = true := by simp; omega
        clear hlt
        go_wp2
        go_ret
        exact ⟨true, rfl, fun h => (by cases h), hbl⟩
      · have hkl : l.length ≤ k := by omega
        have hl3 : (l.length : Int) ≤ 300 := by omega
        clear hlt
        go_wp2
        go_ret
        exact ⟨_, rfl, fun _ => ⟨by omega, fun y hy => hf.out y (by rw [List.take_of_length_le hkl]; exact hy)⟩, hbl⟩

set_option maxHeartbeats 400000 in
theorem refSame08 (A B : Option Addr) (c d : Nat) (l m : List Times) (w : World) (hl : l.length ≤ maxLen) (_hm : m.length ≤ maxLen) (hA : R cTimes 0 w A l) (hB : R cTimes 0 w B m) :
    Calls Try.prog 47 #[.slice A l.length c, .slice B m.length d] w fun e w' => e = .returned (.bool (same l m)) ∧ Bl w w' := by
  unfold maxLen at hl
  by_cases hne : l.length = m.length
  · have hne1 : ((l.length : Int) != (m.length : Int)) = false := by simp [hne]
    have hle : l.length ≤ m.length := by omega
    have hle' : m.length ≤ l.length := by omega
    clear hne
    go_enter Try.func47, Try.ntmps47
    go_wp2
    go_loopw [5] (fun i wr => Bl w wr ∧ ∃ k : Nat, k ≤ l.length ∧ i = .int .i64 k ∧ Hid (decide (l = m) = decide (l.drop k = m.drop k))) (fun i _ => l.length - (intOf i).toNat)
    case atStart => exact ⟨Bl.refl _, 0, Nat.zero_le _, rfl, rfl⟩
    case round =>
      obtain ⟨hbl, k, hk, rfl, hf⟩ := hrel
      by_cases hlt : k < l.length
      · have hR := hA.bl hbl
        have hS := hB.bl hbl
        obtain ⟨b, off, rfl, _, hb⟩ := hR.addr (by omega)
        obtain ⟨b', off', rfl, _, hb'⟩ := hS.addr (by omega)
        obtain ⟨x, hx⟩ := get_lt hlt
        obtain ⟨y, hy⟩ := get_lt (show k < m.length by omega)
        obtain ⟨_, ho, A1, a1, ha1, ha2, c0, c1, hA1⟩ := hR.times hx
        obtain ⟨_, ho', B1, b1, hb1, hb2, d0, d1, hB1⟩ := hS.times hy
        have hx := hide hx
        have hy := hide hy
        have hi : (k : Int) < (l.length : Int) := by omega
        have hi' : (k : Int) < (m.length : Int) := by omega
        have C0 := fun p : Wd wr => Wd.cell c0 hb p
        have C1 := fun p : Wd wr => Wd.cell c1 hb p
        have D0 := fun p : Wd wr => Wd.cell d0 hb' p
        have D1 := fun p : Wd wr => Wd.cell d1 hb' p
        clear c0 c1 d0 d1
        have hp := eqTimes_parts x y
        have hstep : (eqTimes x y = true → Hid (decide (l = m) = decide (l.drop (k + 1) = m.drop (k + 1)))) ∧ (eqTimes x y = false → false = decide (l = m)) :=
          ⟨fun h => drop_eq_step hf.out hx.out hy.out (eqTimes_true h), fun h => drop_ne_step hf.out hx.out hy.out (eqTimes_false h)⟩
        by_cases hr : x.r = y.r
        · have hne1 : (x.r != y.r) = false := by simp [hr]
          have e1 : (x.r == y.r) = true := by simp [hr]
          rw [e1, Bool.true_and] at hp
          clear e1
          have hr := hide hr
          have hcall := fun W (hW : Bl wr W) => refSame07 A1 B1 a1 b1 x.s y.s W (by omega) (by omega) (hA1.bl hW) (hB1.bl hW)
          rw [hp] at hstep
          clear hp
          cases hq : same x.s y.s
          · have g := hide (hstep.2 hq)
            rw [hq] at hcall
            have hcall := hide hcall
            clear hq hstep
            go_wp2
            (refine wp_region_wd (by kernel_rfl) (by kernel_rfl) ?_
             repeat (go_big_quiet_step ((go_at_call 108; exact Calls.wd (hcall.out _ (Wd.h _)))))
             refine wpQuiet_nil ?_
             intro w2 hw'
             obtain ⟨⟨wx, hb2⟩, hw''⟩ := hw'
             subst hw'')
            go_wp2
            go_ret
            exact ⟨ret_bool g.out, hbl.trans hb2⟩
          · have g := hstep.1 hq
            rw [hq] at hcall
            have hcall := hide hcall
            clear hq hstep
            go_wp2
            (refine wp_region_wd (by kernel_rfl) (by kernel_rfl) ?_
             repeat (go_big_quiet_step ((go_at_call 108; exact Calls.wd (hcall.out _ (Wd.h _)))))
             refine wpQuiet_nil ?_
             intro w2 hw'
             obtain ⟨⟨wx, hb2⟩, hw''⟩ := hw'
             subst hw'')
            go_wp2
            go_roundw
            case rel => exact ⟨hbl.trans hb2, k + 1, by omega, by go_num, g⟩
            case measure => simp [intOf]; omega
        · have hne1 : (x.r != y.r) = true := by simp [hr]
          have e1 : (x.r == y.r) = false := by simp [hr]
          rw [e1, Bool.false_and] at hp
          clear e1 hr
          have g := hide (hstep.2 hp)
          clear hp hstep
          go_wp2
          (refine wp_region_wd (by kernel_rfl) (by kernel_rfl) ?_
           repeat (go_big_quiet_step ((fail)))
           refine wpQuiet_nil ?_
           intro w2 hw'
           obtain ⟨⟨wx, hb2⟩, hw''⟩ := hw'
           subst hw'')
          go_wp2
          go_ret
          exact ⟨ret_bool g.out, hbl.trans hb2⟩
      · have hkl : l.length ≤ k := by omega
        go_wp2
        go_ret
        exact ⟨ret_bool (drop_eq_end hf.out hkl (by omega)), hbl⟩
  · have hne1 : ((l.length : Int) != (m.length : Int)) = true := by simp; omega
    go_enter Try.func47, Try.ntmps47
    go_wp2
    go_ret
    exact ⟨ret_bool (ne_of_length hne), Bl.refl _⟩
end Go.Proofs.Ytkolimhkfiebeaa

namespace Go.Proofs.Ytkolimhkfiebeaa
open Go.RowKit

end Go.Proofs.Ytkolimhkfiebeaa

/-
  The walks of package clock that make no sets.
  The walks of the references of layer 7.
  The walks of clock.Twin, and of the reference's.
  The walks of clock.Ids, and of the references All, Ids.
  The walks of the references of layer 8.
  The walks of the references May and Ids of layer 8.
-/
import Derived.Test.YteoodmilcpmmpaaGreatSpan
namespace Go.Proofs.YteoodmilcpmmpaaGreat

open Go.RowKit

def clockFrom (last : Int) : List Times → Bool
  | [] => true
  | x :: l => decide (last < x.r) && decide (x.r < 8) && decide (1 ≤ x.s.length) && spansMay x.s && clockFrom x.r l

/-- May a clock be? -/
def clockMay (l : List Times) : Bool := clockFrom (-1) l

theorem clockFrom_bad {l rest : List Times} {last : Int} {k : Nat} {x : Times} (h : clockMay l = clockFrom last (l.drop k)) (hd : l.drop k = x :: rest) (hb : ¬ (last < x.r ∧ x.r < 8 ∧ 1 ≤ x.s.length ∧ spansMay x.s = true)) : clockMay l = false := by
  rw [h, hd, clockFrom]
  by_cases h1 : last < x.r <;> by_cases h2 : x.r < 8 <;> by_cases h3 : 1 ≤ x.s.length <;> cases h4 : spansMay x.s <;> simp_all <;> intros <;> omega

theorem clockFrom_good {l rest : List Times} {last : Int} {k : Nat} {x : Times} (h : clockMay l = clockFrom last (l.drop k)) (hd : l.drop k = x :: rest) (h1 : last < x.r) (h2 : x.r < 8) (h3 : 1 ≤ x.s.length) (h4 : spansMay x.s = true) : clockMay l = clockFrom x.r rest := by
  rw [h, hd, clockFrom]
  simp [h1, h2, h3, h4]

set_option maxHeartbeats 400000 in
theorem clockCheck (A : Option Addr) (c : Nat) (l : List Times) (w : World) (hl : l.length ≤ maxLen) (hA : R cTimes 0 w A l) :
    Calls Tryz.prog 185 #[.slice A l.length c] w fun e w' => e = .returned (.int .i64 (okOr 8 (clockMay l))) ∧ Bl w w' := by
  unfold maxLen at hl
  go_enter Tryz.func185, Tryz.ntmps185
  go_wp2
  go_loopw [3, 8] (fun t i wr => Bl w wr ∧ ∃ (k : Nat) (last : Int), k ≤ l.length ∧ i = .int .i64 k ∧ t = .int .i64 last ∧ -1 ≤ last ∧ last ≤ 255 ∧ Hid (clockMay l = clockFrom last (l.drop k))) (fun _ i _ => l.length - (intOf i).toNat)
  case atStart => exact ⟨Bl.refl _, 0, -1, Nat.zero_le _, rfl, rfl, by omega, by omega, rfl⟩
  case round =>
    obtain ⟨hbl, k, last, hk, rfl, rfl, hl0, hl1, hf⟩ := hrel
    by_cases hlt : k < l.length
    · have hR := hA.bl hbl
      obtain ⟨b, off, rfl, _, hb⟩ := hR.addr (by omega)
      obtain ⟨x, hx⟩ := get_lt hlt
      obtain ⟨_, ho, B, d, hcd, hdm, c0, c1, hB⟩ := hR.times hx
      have hd := hide (drop_cons hx)
      clear hx
      obtain ⟨o0, o1⟩ := ho
      have hsl : x.s.length ≤ maxLen := by omega
      have hsl' : x.s.length ≤ 9223372036854775807 := by unfold maxLen at hsl; omega
      cases hm : spansMay x.s
      · have hm' := hide hm
        go_wp2_with (go_at_call 212; refine (spanCheck B d x.s _ hsl (hB.bl ((Bl.refl _).alloc _))).mono ?_; rintro e w1 ⟨rfl, hb1⟩; rw [hm, okOr_false])
        all_goals
          go_ret
          refine ⟨ret_int (by rw [clockFrom_bad hf.out hd.out (by rw [hm'.out]; simp)]; rfl), ?_⟩
          first | exact hbl.alloc _ | exact (hbl.alloc _).trans hb1
      · have hm' := hide hm
        go_wp2_with (go_at_call 212; refine (spanCheck B d x.s _ hsl (hB.bl ((Bl.refl _).alloc _))).mono ?_; rintro e w1 ⟨rfl, hb1⟩; rw [hm, okOr_true]; have hc1 := hb1.cells)
        all_goals first
          | (go_roundw
             case rel => exact ⟨(hbl.alloc _).trans hb1, k + 1, x.r, by omega, by go_num, rfl, by omega, by omega, clockFrom_good hf.out hd.out (by omega) (by omega) (by omega) hm'.out⟩
             case measure => simp [intOf]; omega)
          | (go_ret
             exact ⟨ret_int (by rw [clockFrom_bad hf.out hd.out (by omega)]; rfl), hbl.alloc _⟩)
    · have hkl : l.length ≤ k := by omega
      go_wp2
      go_ret
      exact ⟨ret_int (by rw [hf.out, List.drop_eq_nil_of_le hkl]; rfl), hbl⟩

def eqTimes (x y : Times) : Bool := decide (x = y)

theorem eqTimes_true {x y : Times} (h : eqTimes x y = true) : x = y := by unfold eqTimes at h; simpa using h

theorem eqTimes_false {x y : Times} (h : eqTimes x y = false) : x ≠ y := by unfold eqTimes at h; simpa using h

theorem eqTimes_parts (x y : Times) : eqTimes x y = (x.r == y.r && same x.s y.s) := by
  cases x; cases y
  unfold eqTimes same
  rw [Bool.eq_iff_iff]
  simp

def clockMany : List Times → Int
  | [] => 0
  | x :: l => spansMany x.s + clockMany l

/-- clock.Count. -/
def clockCount (l : List Times) : Int := if clockMay l then clockMany l else 0

/-- All spans of a clock may be. -/
def allMay (l : List Times) : Prop := ∀ x ∈ l, spansMay x.s = true

theorem clockFrom_all {l : List Times} : ∀ last, clockFrom last l = true → allMay l := by
  induction l with
  | nil => intro _ _ x hx; cases hx
  | cons y l ih =>
    intro last h x hx
    simp only [clockFrom, Bool.and_eq_true, decide_eq_true_eq] at h
    rcases List.mem_cons.1 hx with rfl | hx
    · exact h.1.2
    · exact ih _ h.2 x hx

theorem clockFrom_length {l : List Times} : ∀ last, -1 ≤ last → last ≤ 7 → clockFrom last l = true → (l.length : Int) ≤ 7 - last := by
  induction l with
  | nil => intro last _ h _; simp; omega
  | cons y l ih =>
    intro last h0 h7 h
    simp only [clockFrom, Bool.and_eq_true, decide_eq_true_eq] at h
    have := ih y.r (by omega) (by omega) h.2
    simp only [List.length_cons]
    omega

theorem clockMay_length {l : List Times} (h : clockMay l = true) : l.length ≤ 8 := by
  have := clockFrom_length (-1) (by omega) (by omega) h
  omega

theorem spansMay_many {l : List Span} (h : spansMay l = true) : 0 ≤ spansMany l ∧ spansMany l ≤ 1099511627776 := by
  unfold spansMay at h
  simp only [Bool.and_eq_true, decide_eq_true_eq] at h
  have := spansMany_le l 1 (by omega) h.2
  omega

set_option maxHeartbeats 400000 in
theorem clockCountC (A : Option Addr) (c : Nat) (l : List Times) (w : World) (hl : l.length ≤ maxLen) (hA : R cTimes 0 w A l) :
    Calls Tryz.prog 184 #[.slice A l.length c] w fun e w' => e = .returned (.int .i64 (clockCount l)) ∧ Bl w w' := by
  cases hm : clockMay l
  · have e1 : clockCount l = 0 := by unfold clockCount; rw [hm]; rfl
    have E1 := hide e1
    clear e1
    go_enter Tryz.func184, Tryz.ntmps184
    go_wp2_with (go_at_call 185; refine (clockCheck A c l _ hl hA).mono ?_; rintro e w1 ⟨rfl, hb⟩; rw [hm, okOr_false])
    go_ret
    exact ⟨ret_int E1.out.symm, hb⟩
  · have e1 : clockCount l = clockMany l := by unfold clockCount; rw [hm]; rfl
    have hlen : l.length ≤ 8 := clockMay_length hm
    have hall := hide (clockFrom_all _ (show clockFrom (-1) l = true from hm))
    have E1 := hide e1
    clear e1
    go_enter Tryz.func184, Tryz.ntmps184
    go_wp2_with (go_at_call 185; refine (clockCheck A c l _ hl hA).mono ?_; rintro e w1 ⟨rfl, hb⟩; rw [hm, okOr_true])
    have hm := hide hm
    go_loopw [2, 10] (fun n i wr => Bl w wr ∧ ∃ (k : Nat) (s : Int), k ≤ l.length ∧ i = .int .i64 k ∧ n = .int .i64 s ∧ 0 ≤ s ∧ s ≤ 1099511627776 * k ∧ Hid (clockMany l = s + clockMany (l.drop k))) (fun _ i _ => l.length - (intOf i).toNat)
    case atStart => exact ⟨hb, 0, 0, Nat.zero_le _, rfl, rfl, by omega, by omega, by simp [Hid]⟩
    case round =>
      obtain ⟨hbl, k, s, hk, rfl, rfl, hs0, hs1, hf⟩ := hrel
      by_cases hlt : k < l.length
      · have hR := hA.bl hbl
        obtain ⟨b, off, rfl, _, hb⟩ := hR.addr (by omega)
        obtain ⟨x, hx⟩ := get_lt hlt
        obtain ⟨_, ho, B, d, hcd, hdm, c0, c1, hB⟩ := hR.times hx
        have hd := hide (drop_cons hx)
        have hxm := hall.out x (List.mem_of_getElem? hx)
        have hcnt : spansCount x.s = spansMany x.s := by unfold spansCount; rw [hxm]; rfl
        have hcnt := hide hcnt
        obtain ⟨hn0, hn1⟩ := spansMay_many hxm
        clear hx hxm
        go_wp2_with (go_at_call 211; refine (spanCount B d x.s _ (by omega) (hB.bl ((Bl.refl _).alloc _))).mono ?_; rintro e w1 ⟨rfl, hb1⟩; rw [hcnt.out])
        go_roundw
        case rel => exact ⟨(hbl.alloc _).trans hb1, k + 1, s + spansMany x.s, by omega, by go_num, rfl, by omega, by push_cast; omega, by rw [Hid, hf.out, hd.out, clockMany]; omega⟩
        case measure => simp [intOf]; omega
      · have hkl : l.length ≤ k := by omega
        go_wp2
        go_ret
        exact ⟨ret_int (by rw [E1.out, hf.out, List.drop_eq_nil_of_le hkl]; simp [clockMany]), hbl⟩

end Go.Proofs.YteoodmilcpmmpaaGreat

namespace Go.Proofs.YteoodmilcpmmpaaGreat

open Go.RowKit

set_option maxHeartbeats 1000000 in
theorem refMay07 (A : Option Addr) (c : Nat) (l : List Span) (w : World) (hl : l.length ≤ maxLen) (hA : R cSpan 0 w A l) :
    Calls Tryz.prog 227 #[.slice A l.length c] w fun e w' => e = .returned (.bool (spansMay l)) ∧ Bl w w' := by
  unfold maxLen at hl
  go_enter Tryz.func227, Tryz.ntmps227
  go_wp2
  go_loopw [3] (fun i wr => Bl w wr ∧ ∃ (k : Nat) (least : Int), k ≤ l.length ∧ i = .int .i64 k ∧ 0 ≤ least ∧ least ≤ 1073741826 ∧ (k = 0 ∧ least = 1 ∨ ∃ q, 0 < k ∧ l[k-1]? = some q ∧ least = q.t + 2) ∧ Hid (spansFrom 1 l = spansFrom least (l.drop k))) (fun i _ => l.length - (intOf i).toNat)
  case atStart => exact ⟨Bl.refl _, 0, 1, Nat.zero_le _, rfl, by omega, by omega, .inl ⟨rfl, rfl⟩, rfl⟩
  case round =>
    obtain ⟨hbl, k, least, hk, rfl, hl0, hl1, hq, hf⟩ := hrel
    by_cases hlt : k < l.length
    · have hR := hA.bl hbl
      obtain ⟨b, off, rfl, _, hb⟩ := hR.addr (by omega)
      obtain ⟨x, hx⟩ := get_lt hlt
      obtain ⟨_, ho, c0, c1⟩ := hR.span hx
      have C0 := fun p : Wd wr => Wd.cell c0 hb p
      have C1 := fun p : Wd wr => Wd.cell c1 hb p
      clear c0 c1
      have hd := hide (drop_cons hx)
      have hx := hide hx
      obtain ⟨o0, o1, o2, o3⟩ := ho
      have hi : (k : Int) < (l.length : Int) := by omega
      have key : ¬ (least ≤ x.f ∧ x.f ≤ x.t ∧ x.t ≤ 1073741824) → false = spansMay l := by
        intro h
        have := spansFrom_bad hf.out hd.out h
        unfold spansMay; rw [this]; simp
      have hl1' : 1 ≤ least := by
        rcases hq with ⟨_, h⟩ | ⟨q, _, h, h'⟩
        · omega
        · obtain ⟨_, ho', _⟩ := hR.span h
          obtain ⟨p0, p1, p2, p3⟩ := ho'
          omega
      rcases Bool.eq_false_or_eq_true (decide (x.f < 1)) with h1 | h1
      · go_wp2
        (refine wp_region_wd (by kernel_rfl) (by kernel_rfl) ?_
         repeat (go_big_quiet_step ((fail)))
         refine wpQuiet_nil ?_
         intro w2 hw'
         obtain ⟨⟨wx, hb2⟩, hw''⟩ := hw'
         subst hw'')
        go_wp2
        go_ret
        exact ⟨ret_bool (key (by have := of_decide_eq_true h1; omega)), hbl.trans hb2⟩
      rcases Bool.eq_false_or_eq_true (decide (x.t < x.f)) with h2 | h2
      · go_wp2
        (refine wp_region_wd (by kernel_rfl) (by kernel_rfl) ?_
         repeat (go_big_quiet_step ((fail)))
         refine wpQuiet_nil ?_
         intro w2 hw'
         obtain ⟨⟨wx, hb2⟩, hw''⟩ := hw'
         subst hw'')
        go_wp2
        go_ret
        exact ⟨ret_bool (key (by have := of_decide_eq_true h2; omega)), hbl.trans hb2⟩
      rcases Bool.eq_false_or_eq_true (decide (1073741824 < x.t)) with h3 | h3
      · go_wp2
        (refine wp_region_wd (by kernel_rfl) (by kernel_rfl) ?_
         repeat (go_big_quiet_step ((fail)))
         refine wpQuiet_nil ?_
         intro w2 hw'
         obtain ⟨⟨wx, hb2⟩, hw''⟩ := hw'
         subst hw'')
        go_wp2
        go_ret
        exact ⟨ret_bool (key (by have := of_decide_eq_true h3; omega)), hbl.trans hb2⟩
      simp only [decide_eq_false_iff_not] at h1 h2 h3
      have good : ∀ h : least ≤ x.f, spansFrom 1 l = spansFrom (x.t + 2) (l.drop (k + 1)) := fun h => spansFrom_good hf.out hd.out h (by omega) (by omega)
      rcases hq with ⟨rfl, rfl⟩ | ⟨q, hk0, hq, rfl⟩
      · have g := hide (good (by omega))
        simp only [Nat.zero_mul, Nat.add_zero] at C0 C1
        clear good key
        have h1 : decide (x.f < 1) = false := by simpa using h1
        have h2 : decide (x.t < x.f) = false := by simpa using h2
        have h3 : decide (1073741824 < x.t) = false := by simpa using h3
        go_wp2
        (refine wp_region_wd (by kernel_rfl) (by kernel_rfl) ?_
         repeat (go_big_quiet_step ((fail)))
         refine wpQuiet_nil ?_
         intro w2 hw'
         obtain ⟨⟨wx, hb2⟩, hw''⟩ := hw'
         subst hw'')
        go_wp2
        go_roundw
        case rel => exact ⟨hbl.trans hb2, 1, _, by omega, by go_num, by omega, by omega, .inr ⟨x, by omega, hx.out, rfl⟩, g.out⟩
        case measure => simp [intOf]; omega
      · obtain ⟨_, hp, d0, d1⟩ := hR.span hq
        have D0 := fun p : Wd wr => Wd.cell d0 hb p
        have D1 := fun p : Wd wr => Wd.cell d1 hb p
        clear d0 d1 hq
        obtain ⟨p0, p1, p2, p3⟩ := hp
        have h1' : decide (x.f < 1) = false := by simpa using h1
        have h2' : decide (x.t < x.f) = false := by simpa using h2
        have h3' : decide (1073741824 < x.t) = false := by simpa using h3
        have h4' : decide (0 < (k : Int)) = true := by simp; omega
        have e1 : IntKind.i64.wrap ((k : Int) - 1) = (k : Int) - 1 := IntWalk.i64_in _ (by omega)
        have e2 : ((k : Int) - 1).toNat = k - 1 := by omega
        have e3 : (0 : Int) ≤ (k : Int) - 1 := by omega
        have e4 : (k : Int) - 1 < (l.length : Int) := by omega
        rcases Bool.eq_false_or_eq_true (decide (x.f < q.t + 2)) with h5 | h5
        · go_wp2
          (refine wp_region_wd (by kernel_rfl) (by kernel_rfl) ?_
           repeat (go_big_quiet_step ((fail)))
           refine wpQuiet_nil ?_
           intro w2 hw'
           obtain ⟨⟨wx, hb2⟩, hw''⟩ := hw'
           subst hw'')
          go_wp2
          go_ret
          exact ⟨ret_bool (key (by have := of_decide_eq_true h5; omega)), hbl.trans hb2⟩
        · have g := hide (good (by simpa using h5))
          clear good key
          go_wp2
          (refine wp_region_wd (by kernel_rfl) (by kernel_rfl) ?_
           repeat (go_big_quiet_step ((fail)))
           refine wpQuiet_nil ?_
           intro w2 hw'
           obtain ⟨⟨wx, hb2⟩, hw''⟩ := hw'
           subst hw'')
          go_wp2
          go_roundw
          case rel => exact ⟨hbl.trans hb2, k + 1, _, by omega, by go_num, by omega, by omega, .inr ⟨x, by omega, hx.out, rfl⟩, g.out⟩
          case measure => simp [intOf]; omega
    · have hkl : l.length ≤ k := by omega
      go_wp2
      go_ret
      exact ⟨ret_bool (by unfold spansMay; rw [hf.out, List.drop_eq_nil_of_le hkl]; simp [spansFrom]; omega), hbl⟩

set_option maxHeartbeats 400000 in
theorem refTwin07 (A : Option Addr) (c : Nat) (l : List Span) (w : World) (hl : l.length ≤ 1048576) (hA : R cSpan 0 w A l) :
    Calls Tryz.prog 186 #[.slice A l.length c] w (New cSpan l w) := by
  obtain ⟨i0, hi, hz0, hz1, hz2⟩ := info_parts Tryz.infoSpan
  go_enter Tryz.func186, Tryz.ntmps186
  go_wp2_with (at_builtin
               refine wpList_append_any2 (C := cSpan) (xs := []) (ys := l) rfl (.tmp 4) (.tmp 5) _ rfl 233 i0 _ 8 Tryz.underlying165 hi hz0 hz1 hz2 rfl (.slice none 0 0) w.heap.size rfl Own.nil A l.length c rfl rfl (hA.source flatSpan) ?c1 ?c2 ?c3 ?_
               case c1 => simp only [List.length_nil, maxLen]; omega
               case c2 => simp only [List.length_nil]; omega
               case c3 => exact Nat.le_refl _
               intro v1 w1 hown hg _)
  go_ret
  have hbl := (Bl.refl w).app (Own.nil (C := cSpan) (e := 233)) (Nat.le_refl _) hg
  simp only [List.nil_append] at hown
  obtain ⟨A', c', rfl, hr, h1, h2⟩ := hown.reads
  exact ⟨A', c', rfl, h1, h2, hr, hbl⟩

set_option maxHeartbeats 400000 in
theorem refSame07 (A B : Option Addr) (c d : Nat) (l m : List Span) (w : World) (hl : l.length ≤ maxLen) (_hm : m.length ≤ maxLen) (hA : R cSpan 0 w A l) (hB : R cSpan 0 w B m) :
    Calls Tryz.prog 193 #[.slice A l.length c, .slice B m.length d] w fun e w' => e = .returned (.bool (same l m)) ∧ Bl w w' := by
  unfold maxLen at hl
  by_cases hne : l.length = m.length
  · have hne1 : ((l.length : Int) != (m.length : Int)) = false := by simp [hne]
    have hle : l.length ≤ m.length := by omega
    have hle' : m.length ≤ l.length := by omega
    clear hne
    go_enter Tryz.func193, Tryz.ntmps193
    go_wp2
    go_loopw [5] (fun i wr => Bl w wr ∧ ∃ k : Nat, k ≤ l.length ∧ i = .int .i64 k ∧ Hid (decide (l = m) = decide (l.drop k = m.drop k))) (fun i _ => l.length - (intOf i).toNat)
    case atStart => exact ⟨Bl.refl _, 0, Nat.zero_le _, rfl, rfl⟩
    case round =>
      obtain ⟨hbl, k, hk, rfl, hf⟩ := hrel
      by_cases hlt : k < l.length
      · have hR := hA.bl hbl
        have hS := hB.bl hbl
        obtain ⟨b, off, rfl, _, hb⟩ := hR.addr (by omega)
        obtain ⟨b', off', rfl, _, hb'⟩ := hS.addr (by omega)
        obtain ⟨x, hx⟩ := get_lt hlt
        obtain ⟨y, hy⟩ := get_lt (show k < m.length by omega)
        obtain ⟨_, ho, c0, c1⟩ := hR.span hx
        obtain ⟨_, ho', d0, d1⟩ := hS.span hy
        have C0 := fun p : Wd wr => Wd.cell c0 hb p
        have C1 := fun p : Wd wr => Wd.cell c1 hb p
        have D0 := fun p : Wd wr => Wd.cell d0 hb' p
        have D1 := fun p : Wd wr => Wd.cell d1 hb' p
        clear c0 c1 d0 d1
        have hx := hide hx
        have hy := hide hy
        have hi : (k : Int) < (l.length : Int) := by omega
        have hi' : (k : Int) < (m.length : Int) := by omega
        have hne := run_neqSpan x y
        cases hq : neqSpan x y
        · have g := hide (drop_eq_step hf.out hx.out hy.out (neqSpan_false hq))
          rw [hq] at hne
          clear hq
          go_wp2
          (refine wp_region_wd (by kernel_rfl) (by kernel_rfl) ?_
           repeat (go_big_quiet_step ((fail)))
           refine wpQuiet_nil ?_
           intro w2 hw'
           obtain ⟨⟨wx, hb2⟩, hw''⟩ := hw'
           subst hw'')
          go_wp2
          go_roundw
          case rel => exact ⟨hbl.trans hb2, k + 1, by omega, by go_num, g⟩
          case measure => simp [intOf]; omega
        · have g := hide (drop_ne_step hf.out hx.out hy.out (neqSpan_true hq))
          rw [hq] at hne
          clear hq
          go_wp2
          (refine wp_region_wd (by kernel_rfl) (by kernel_rfl) ?_
           repeat (go_big_quiet_step ((fail)))
           refine wpQuiet_nil ?_
           intro w2 hw'
           obtain ⟨⟨wx, hb2⟩, hw''⟩ := hw'
           subst hw'')
          go_wp2
          go_ret
          exact ⟨ret_bool g.out, hbl.trans hb2⟩
      · have hkl : l.length ≤ k := by omega
        go_wp2
        go_ret
        exact ⟨ret_bool (drop_eq_end hf.out hkl (by omega)), hbl⟩
  · have hne1 : ((l.length : Int) != (m.length : Int)) = true := by simp; omega
    go_enter Tryz.func193, Tryz.ntmps193
    go_wp2
    go_ret
    exact ⟨ret_bool (ne_of_length hne), Bl.refl _⟩

set_option maxHeartbeats 400000 in
theorem refMany07 (A : Option Addr) (c : Nat) (l : List Span) (w : World) (hlen : l.length ≤ 1024) (hfr : spansFrom 1 l = true) (hA : R cSpan 0 w A l) :
    Calls Tryz.prog 228 #[.slice A l.length c] w fun e w' => e = .returned (.int .i64 (spansMany l)) ∧ Bl w w' := by
  have hfr := hide hfr
  go_enter Tryz.func228, Tryz.ntmps228
  go_wp2
  go_loopw [3, 4] (fun n i wr => Bl w wr ∧ ∃ (k : Nat) (least s : Int), k ≤ l.length ∧ i = .int .i64 k ∧ n = .int .i64 s ∧ 0 ≤ s ∧ s ≤ 1073741824 * k ∧ 1 ≤ least ∧ Hid (spansMany l = s + spansMany (l.drop k) ∧ spansFrom least (l.drop k) = true)) (fun _ i _ => l.length - (intOf i).toNat)
  case atStart => exact ⟨Bl.refl _, 0, 1, 0, Nat.zero_le _, rfl, rfl, by omega, by omega, by omega, by simp, hfr.out⟩
  case round =>
    obtain ⟨hbl, k, least, s, hk, rfl, rfl, hs0, hs1, hl1, hf⟩ := hrel
    by_cases hlt : k < l.length
    · have hR := hA.bl hbl
      obtain ⟨b, off, rfl, _, hb⟩ := hR.addr (by omega)
      obtain ⟨x, hx⟩ := get_lt hlt
      obtain ⟨_, ho, c0, c1⟩ := hR.span hx
      have hd := hide (drop_cons hx)
      clear hx
      obtain ⟨o0, o1, o2, o3⟩ := ho
      have hx : least ≤ x.f ∧ x.f ≤ x.t ∧ x.t ≤ 1073741824 ∧ spansFrom (x.t + 2) (l.drop (k + 1)) = true := by
        have := hf.out.2
        rw [hd.out, spansFrom] at this
        simp only [Bool.and_eq_true, decide_eq_true_eq] at this
        exact ⟨this.1.1.1, this.1.1.2, this.1.2, this.2⟩
      obtain ⟨x0, x1, x2, x3⟩ := hx
      have x3 := hide x3
      have hb2 : 1073741824 * (k : Int) ≤ 1073741824 * 1024 := by omega
      have C0 := fun p : Wd wr => Wd.cell c0 hb p
      have C1 := fun p : Wd wr => Wd.cell c1 hb p
      clear c0 c1
      have hi : (k : Int) < (l.length : Int) := by omega
      have e1 : IntKind.u32.wrap (x.t - x.f) = x.t - x.f := IntWalk.u32_in _ (by omega)
      have e2 : IntKind.i64.wrap (x.t - x.f + 1) = x.t - x.f + 1 := IntWalk.i64_in _ (by omega)
      have e3 : IntKind.i64.wrap (s + (x.t - x.f + 1)) = s + (x.t - x.f + 1) := IntWalk.i64_in _ (by omega)
      go_wp2
      (refine wp_region_wd (by kernel_rfl) (by kernel_rfl) ?_
       repeat (go_big_quiet_step ((fail)))
       refine wpQuiet_nil ?_
       intro w2 hw'
       obtain ⟨⟨wx, hbq⟩, hw''⟩ := hw'
       subst hw'')
      clear e1 e2 e3
      go_wp2
      go_roundw
      case rel => exact ⟨hbl.trans hbq, k + 1, x.t + 2, s + (x.t - x.f + 1), by omega, by go_num, rfl, by omega, by push_cast; omega, by omega, by rw [hf.out.1, hd.out, spansMany]; omega, x3.out⟩
      case measure => simp [intOf]; omega
    · have hkl : l.length ≤ k := by omega
      go_wp2
      go_ret
      exact ⟨ret_int (by rw [hf.out.1, List.drop_eq_nil_of_le hkl]; simp [spansMany]), hbl⟩

end Go.Proofs.YteoodmilcpmmpaaGreat

namespace Go.Proofs.YteoodmilcpmmpaaGreat

open Go.RowKit

def smallC (l : List Times) : Prop := l.length ≤ 1048576 ∧ ∀ x ∈ l, x.s.length ≤ 1048576

theorem Tryz.infoTimes : (Tryz.prog.info? 167).map (fun i => (i.zero, i.size, i.bytes)) = some (some (.agg #[.int .u8 0, .slice none 0 0]), 2, 32) := by kernel_rfl

set_option maxRecDepth 100000 in
set_option maxHeartbeats 1000000 in
theorem clockTwin (A : Option Addr) (c : Nat) (l : List Times) (w : World) (hl : smallC l) (hA : R cTimes 0 w A l) :
    Calls Tryz.prog 150 #[.slice A l.length c] w (New cTimes l w) := by
  obtain ⟨i0, hi, hz0, hz1, hz2⟩ := info_parts Tryz.infoTimes
  obtain ⟨hl, hsm⟩ := hl
  have hsm := hide hsm
  go_enter Tryz.func150, Tryz.ntmps150
  go_wp2
  go_loopw [2, 7] (fun v i wr => Bl w wr ∧ ∃ k : Nat, k ≤ l.length ∧ i = .int .i64 k ∧ Own cTimes 167 w.heap.size wr v (l.take k)) (fun _ i _ => l.length - (intOf i).toNat)
  case atStart => exact ⟨Bl.refl _, 0, Nat.zero_le _, rfl, Own.nil⟩
  case round =>
    obtain ⟨hbl, k, hk, rfl, hown⟩ := hrel
    by_cases hlt : k < l.length
    · have hR := hA.bl hbl
      obtain ⟨b, off, rfl, _, hb⟩ := hR.addr (by omega)
      obtain ⟨x, hx⟩ := get_lt hlt
      obtain ⟨_, ho, B, d, hcd, hdm, c0, c1, hB⟩ := hR.times hx
      have hts := hide (take_snoc hx)
      have hxs := hsm.out x (List.mem_of_getElem? hx)
      clear hx
      go_wp2
      obtain ⟨W, hW⟩ : ∃ W, W = wr.alloc (Obj.cells #[Value.int IntKind.u8 x.r, Value.slice B x.s.length d] 167) := ⟨_, rfl⟩
      rw [← hW]
      have hblW : Bl wr W := by rw [hW]; exact (Bl.refl _).alloc _
      have q0 : W.cell? ⟨wr.heap.size, 0, none⟩ = some (.int .u8 x.r) := by rw [hW]; simp
      have q1 : W.cell? ⟨wr.heap.size, 1, none⟩ = some (.slice B x.s.length d) := by rw [hW]; simp
      have hWs : wr.heap.size < W.heap.size := by rw [hW]; simp
      have hW0 : w.heap.size ≤ W.heap.size := (hbl.trans hblW).size
      clear hW
      have hne := fun e => Nat.lt_irrefl _ (hown.lt (b := wr.heap.size) e).2
      have hown := hown.bl hblW
      have hB := hB.bl hblW
      go_region_held3 (fun W' => W'.cell? ⟨wr.heap.size, 0, none⟩ = some (.int .u8 x.r) ∧ W'.cell? ⟨wr.heap.size, 1, none⟩ = some (.slice B x.s.length d))
        (first
          | exact ⟨q0, q1⟩
          | exact ⟨(hb1.cell hWs).trans q0, (hb1.cell hWs).trans q1⟩
          | exact ⟨((hb1.alloc _).cell hWs).trans q0, ((hb1.alloc _).cell hWs).trans q1⟩
          | exact ⟨(grown_far hg2 hne (by simp; omega)).trans (((hb1.alloc _).cell hWs).trans q0), (grown_far hg2 hne (by simp; omega)).trans (((hb1.alloc _).cell hWs).trans q1)⟩
          | go_keep)
        (first
          | (go_at_call 196; refine (spanTwin B d x.s _ hxs (hB.bl (Bl.refl _).drew)).mono ?_; rintro e w1 ⟨A1, c1', rfl, h1, h2, hr1, hb0⟩; have hb1 : Bl W w1 := (Bl.refl W).drew.trans hb0; clear hb0; have hW1 : W.heap.size ≤ w1.heap.size := hb1.size)
          | (refine step_append_any2 (C := cTimes) (xs := l.take k) (ys := [x]) rfl (.tmp 11) (.tmp 18) _ rfl 167 i0 _ 32 Tryz.underlying59 hi hz0 hz1 hz2 rfl _ w.heap.size rfl ((hown.bl hb1).bl ((Bl.refl _).alloc _)) (some ⟨w1.heap.size, 0, none⟩) 1 _ rfl rfl (hown.src (cs := [Value.int IntKind.u8 x.r, Value.slice A1 x.s.length c1']) hb1 (by omega) ⟨ho, A1, c1', h1, h2, rfl, hr1⟩) ?_ ?_ ?_ ?_; (simp only [maxLen]; simp; omega); (simp; omega); (simp; omega); intro v2 w2 hown2 hg2 _; have hbl2 : Bl w w2 := ((((hbl.trans hblW).trans hb1).alloc _).app ((hown.bl hb1).bl ((Bl.refl _).alloc _)) (Nat.le_refl _) hg2)))
      go_wp2
      go_roundw
      case rel => exact ⟨hbl2, k + 1, by omega, by go_num, by rw [hts.out]; exact hown2⟩
      case measure => simp [intOf]; omega
    · have hkl : l.length ≤ k := by omega
      go_wp2
      go_ret
      rw [List.take_of_length_le hkl] at hown
      obtain ⟨A', c', rfl, hr, h1, h2⟩ := hown.reads
      exact ⟨A', c', rfl, h1, h2, hr, hbl⟩

set_option maxRecDepth 100000 in
set_option maxHeartbeats 1000000 in
theorem refTwin08 (A : Option Addr) (c : Nat) (l : List Times) (w : World) (hl : smallC l) (hA : R cTimes 0 w A l) :
    Calls Tryz.prog 131 #[.slice A l.length c] w (New cTimes l w) := by
  obtain ⟨i0, hi, hz0, hz1, hz2⟩ := info_parts Tryz.infoTimes
  obtain ⟨hl, hsm⟩ := hl
  have hsm := hide hsm
  go_enter Tryz.func131, Tryz.ntmps131
  go_wp2
  go_loopw [3, 4] (fun v i wr => Bl w wr ∧ ∃ k : Nat, k ≤ l.length ∧ i = .int .i64 k ∧ Own cTimes 167 w.heap.size wr v (l.take k)) (fun _ i _ => l.length - (intOf i).toNat)
  case atStart => exact ⟨Bl.refl _, 0, Nat.zero_le _, rfl, Own.nil⟩
  case round =>
    obtain ⟨hbl, k, hk, rfl, hown⟩ := hrel
    by_cases hlt : k < l.length
    · have hR := hA.bl hbl
      obtain ⟨b, off, rfl, _, hbw⟩ := hA.addr (by omega)
      have hb : b < wr.heap.size := Nat.lt_of_lt_of_le hbw hbl.size
      obtain ⟨x, hx⟩ := get_lt hlt
      obtain ⟨_, ho, B, d, hcd, hdm, c0, c1, hB⟩ := hR.times hx
      have hts := hide (take_snoc hx)
      have hxs := hsm.out x (List.mem_of_getElem? hx)
      clear hx
      go_wp2
      have hW0 : w.heap.size ≤ wr.heap.size := hbl.size
      have hki : (k : Int) < (l.length : Int) := by omega
      have hne := fun e => Nat.lt_irrefl _ (Nat.lt_of_lt_of_le hbw (hown.lt (b := b) e).1)
      go_region_held3 (fun W' => W'.cell? ⟨b, off + k * 2, none⟩ = some (.int .u8 x.r) ∧ W'.cell? ⟨b, off + k * 2 + 1, none⟩ = some (.slice B x.s.length d))
        (first
          | exact ⟨c0, c1⟩
          | exact ⟨(hb1.cell hb).trans c0, (hb1.cell hb).trans c1⟩
          | exact ⟨((hb1.alloc _).cell hb).trans c0, ((hb1.alloc _).cell hb).trans c1⟩
          | exact ⟨(grown_far hg2 hne (by simp; omega)).trans (((hb1.alloc _).cell hb).trans c0), (grown_far hg2 hne (by simp; omega)).trans (((hb1.alloc _).cell hb).trans c1)⟩
          | go_keep)
        (first
          | (go_at_call 186; refine (refTwin07 B d x.s _ hxs (hB.bl (Bl.refl _).drew)).mono ?_; rintro e w1 ⟨A1, c1', rfl, h1, h2, hr1, hb0⟩; have hb1 : Bl wr w1 := (Bl.refl wr).drew.trans hb0; clear hb0; have hW1 : wr.heap.size ≤ w1.heap.size := hb1.size)
          | (refine step_append_any2 (C := cTimes) (xs := l.take k) (ys := [x]) rfl (.tmp 11) (.tmp 24) _ rfl 167 i0 _ 32 Tryz.underlying59 hi hz0 hz1 hz2 rfl _ w.heap.size rfl ((hown.bl hb1).bl ((Bl.refl _).alloc _)) (some ⟨w1.heap.size, 0, none⟩) 1 _ rfl rfl (hown.src (cs := [Value.int IntKind.u8 x.r, Value.slice A1 x.s.length c1']) hb1 (by omega) ⟨ho, A1, c1', h1, h2, rfl, hr1⟩) ?_ ?_ ?_ ?_; (simp only [maxLen]; simp; omega); (simp; omega); (simp; omega); intro v2 w2 hown2 hg2 _; have hbl2 : Bl w w2 := (((hbl.trans hb1).alloc _).app ((hown.bl hb1).bl ((Bl.refl _).alloc _)) (Nat.le_refl _) hg2)))
      go_wp2
      go_roundw
      case rel => exact ⟨hbl2, k + 1, by omega, by go_num, by rw [hts.out]; exact hown2⟩
      case measure => simp [intOf]; omega
    · have hkl : l.length ≤ k := by omega
      go_wp2
      go_ret
      rw [List.take_of_length_le hkl] at hown
      obtain ⟨A', c', rfl, hr, h1, h2⟩ := hown.reads
      exact ⟨A', c', rfl, h1, h2, hr, hbl⟩

end Go.Proofs.YteoodmilcpmmpaaGreat

namespace Go.Proofs.YteoodmilcpmmpaaGreat

open Go.RowKit

def idsN (r t : Int) : Nat → List Id
  | 0 => []
  | n + 1 => ⟨t, r⟩ :: idsN r (t + 1) n

theorem idsN_length (r t : Int) (n : Nat) : (idsN r t n).length = n := by
  induction n generalizing t with
  | zero => rfl
  | succ n ih => simp [idsN, ih]

theorem Tryz.infoId : (Tryz.prog.info? 25).map (fun i => (i.zero, i.size, i.bytes)) = some (some (.agg #[.int .u32 0, .int .u8 0]), 2, 8) := by kernel_rfl

/-- What a call that hands back a new list, and a number, says. -/
def New2 {α : Type} (C : Codec α) (l : List α) (n : Int) (w : World) (e : Ending) (w' : World) : Prop := ∃ A c, e = .returned (.tuple #[.slice A l.length c, .int .i64 n]) ∧ l.length ≤ c ∧ c ≤ maxLen ∧ R C w.heap.size w' A l ∧ Bl w w'

end Go.Proofs.YteoodmilcpmmpaaGreat

namespace Go.Proofs.YteoodmilcpmmpaaGreat

open Go.RowKit

set_option maxHeartbeats 400000 in
theorem refMany08 (A : Option Addr) (c : Nat) (l : List Times) (w : World) (hm : clockMay l = true) (hA : R cTimes 0 w A l) :
    Calls Tryz.prog 214 #[.slice A l.length c] w fun e w' => e = .returned (.int .i64 (clockMany l)) ∧ Bl w w' := by
  have hlen : l.length ≤ 8 := clockMay_length hm
  have hall := hide (clockFrom_all _ (show clockFrom (-1) l = true from hm))
  clear hm
  go_enter Tryz.func214, Tryz.ntmps214
  go_wp2
  go_loopw [3, 4] (fun n i wr => Bl w wr ∧ ∃ (k : Nat) (s : Int), k ≤ l.length ∧ i = .int .i64 k ∧ n = .int .i64 s ∧ 0 ≤ s ∧ s ≤ 1099511627776 * k ∧ Hid (clockMany l = s + clockMany (l.drop k))) (fun _ i _ => l.length - (intOf i).toNat)
  case atStart => exact ⟨Bl.refl _, 0, 0, Nat.zero_le _, rfl, rfl, by omega, by omega, by simp [Hid]⟩
  case round =>
    obtain ⟨hbl, k, s, hk, rfl, rfl, hs0, hs1, hf⟩ := hrel
    by_cases hlt : k < l.length
    · have hR := hA.bl hbl
      obtain ⟨b, off, rfl, _, hb⟩ := hR.addr (by omega)
      obtain ⟨x, hx⟩ := get_lt hlt
      obtain ⟨_, ho, B, d, hcd, hdm, c0, c1, hB⟩ := hR.times hx
      have hd := hide (drop_cons hx)
      have hxm := hall.out x (List.mem_of_getElem? hx)
      have hxm' : x.s.length ≤ 1024 ∧ spansFrom 1 x.s = true := by unfold spansMay at hxm; simpa using hxm
      obtain ⟨hn0, hn1⟩ := spansMay_many hxm
      have hcon := hide (refMany07 B d x.s wr hxm'.1 hxm'.2 hB)
      clear hx hxm hxm'
      go_wp2_with (go_at_call 228; refine hcon.out.mono ?_; rintro e w1 ⟨rfl, hb1⟩)
      go_roundw
      case rel => exact ⟨hbl.trans hb1, k + 1, s + spansMany x.s, by omega, by go_num, rfl, by omega, by push_cast; omega, by rw [Hid, hf.out, hd.out, clockMany]; omega⟩
      case measure => simp [intOf]; omega
    · have hkl : l.length ≤ k := by omega
      go_wp2
      go_ret
      exact ⟨ret_int (by rw [hf.out, List.drop_eq_nil_of_le hkl]; simp [clockMany]), hbl⟩

/-- At most 300 spans, at most 300 marks. -/
def few (l : List Times) : Prop := l.length ≤ 300 ∧ ∀ x ∈ l, x.s.length ≤ 300

def GreatPost (l : List Times) (w : World) (e : Ending) (w' : World) : Prop := ∃ b, e = .returned (.bool b) ∧ (b = false → few l) ∧ Bl w w'

set_option maxRecDepth 100000 in
set_option maxHeartbeats 400000 in
theorem refGreat08 (A : Option Addr) (c : Nat) (l : List Times) (w : World) (hl : l.length ≤ 140737488355328) (hs : ∀ x ∈ l, x.s.length ≤ 140737488355328) (hA : R cTimes 0 w A l) :
    Calls Tryz.prog 79 #[.slice A l.length c] w (GreatPost l w) := by
  have hs := hide hs
  go_enter Tryz.func79, Tryz.ntmps79
  go_wp2
  go_loopw [3, 4] (fun n i wr => Bl w wr ∧ ∃ (k s : Nat), k ≤ l.length ∧ k ≤ 300 ∧ i = .int .i64 k ∧ n = .int .i64 s ∧ s ≤ 300 ∧ Hid (∀ x ∈ l.take k, x.s.length ≤ 300)) (fun _ i _ => l.length - (intOf i).toNat)
  case atStart => exact ⟨Bl.refl _, 0, 0, Nat.zero_le _, Nat.zero_le _, rfl, rfl, Nat.zero_le _, by simp [Hid]⟩
  case round =>
    obtain ⟨hbl, k, s, hk, hk3, rfl, rfl, hs1, hf⟩ := hrel
    by_cases hlt : k < l.length ∧ k < 300
    · obtain ⟨hlt, hlt3⟩ := hlt
      have hR := hA.bl hbl
      obtain ⟨b, off, rfl, _, hb⟩ := hR.addr (by omega)
      obtain ⟨x, hx⟩ := get_lt hlt
      obtain ⟨_, ho, B, d, hcd, hdm, c0, c1, hB⟩ := hR.times hx
      have hd := hide (take_snoc hx)
      have hxs := hs.out x (List.mem_of_getElem? hx)
      clear hx
      by_cases hbg : 300 < s + x.s.length
      · have hbg' : decide ((300 : Int) < (s : Int) + (x.s.length : Int)) = true := by simp; omega
        go_wp2
        go_ret
        exact ⟨true, rfl, fun h => (by cases h), hbl⟩
      · have hbg' : (s : Int) + (x.s.length : Int) ≤ 300 := by omega
        have hbg := hide hbg
        go_wp2
        go_roundw
        case rel => exact ⟨hbl, k + 1, s + x.s.length, by omega, by omega, by go_num, by go_num, by omega, by
          rw [Hid, hd.out]
          intro y hy
          rcases List.mem_append.1 hy with h | h
          · exact hf.out y h
          · simp at h; subst h; omega⟩
        case measure => simp [intOf]; omega
    · by_cases hk' : k < l.length
      · have h300 : ¬ k < 300 := fun h => hlt ⟨hk', h⟩
        have hbg : decide ((300 : Int) < (l.length : Int)) = true := by simp; omega
        clear hlt
        go_wp2
        go_ret
        exact ⟨true, rfl, fun h => (by cases h), hbl⟩
      · have hkl : l.length ≤ k := by omega
        have hl3 : (l.length : Int) ≤ 300 := by omega
        clear hlt
        go_wp2
        go_ret
        exact ⟨_, rfl, fun _ => ⟨by omega, fun y hy => hf.out y (by rw [List.take_of_length_le hkl]; exact hy)⟩, hbl⟩

set_option maxHeartbeats 400000 in
theorem refSame08 (A B : Option Addr) (c d : Nat) (l m : List Times) (w : World) (hl : l.length ≤ maxLen) (_hm : m.length ≤ maxLen) (hA : R cTimes 0 w A l) (hB : R cTimes 0 w B m) :
    Calls Tryz.prog 144 #[.slice A l.length c, .slice B m.length d] w fun e w' => e = .returned (.bool (same l m)) ∧ Bl w w' := by
  unfold maxLen at hl
  by_cases hne : l.length = m.length
  · have hne1 : ((l.length : Int) != (m.length : Int)) = false := by simp [hne]
    have hle : l.length ≤ m.length := by omega
    have hle' : m.length ≤ l.length := by omega
    clear hne
    go_enter Tryz.func144, Tryz.ntmps144
    go_wp2
    go_loopw [5] (fun i wr => Bl w wr ∧ ∃ k : Nat, k ≤ l.length ∧ i = .int .i64 k ∧ Hid (decide (l = m) = decide (l.drop k = m.drop k))) (fun i _ => l.length - (intOf i).toNat)
    case atStart => exact ⟨Bl.refl _, 0, Nat.zero_le _, rfl, rfl⟩
    case round =>
      obtain ⟨hbl, k, hk, rfl, hf⟩ := hrel
      by_cases hlt : k < l.length
      · have hR := hA.bl hbl
        have hS := hB.bl hbl
        obtain ⟨b, off, rfl, _, hb⟩ := hR.addr (by omega)
        obtain ⟨b', off', rfl, _, hb'⟩ := hS.addr (by omega)
        obtain ⟨x, hx⟩ := get_lt hlt
        obtain ⟨y, hy⟩ := get_lt (show k < m.length by omega)
        obtain ⟨_, ho, A1, a1, ha1, ha2, c0, c1, hA1⟩ := hR.times hx
        obtain ⟨_, ho', B1, b1, hb1, hb2, d0, d1, hB1⟩ := hS.times hy
        have hx := hide hx
        have hy := hide hy
        have hi : (k : Int) < (l.length : Int) := by omega
        have hi' : (k : Int) < (m.length : Int) := by omega
        have C0 := fun p : Wd wr => Wd.cell c0 hb p
        have C1 := fun p : Wd wr => Wd.cell c1 hb p
        have D0 := fun p : Wd wr => Wd.cell d0 hb' p
        have D1 := fun p : Wd wr => Wd.cell d1 hb' p
        clear c0 c1 d0 d1
        have hp := eqTimes_parts x y
        have hstep : (eqTimes x y = true → Hid (decide (l = m) = decide (l.drop (k + 1) = m.drop (k + 1)))) ∧ (eqTimes x y = false → false = decide (l = m)) :=
          ⟨fun h => drop_eq_step hf.out hx.out hy.out (eqTimes_true h), fun h => drop_ne_step hf.out hx.out hy.out (eqTimes_false h)⟩
        by_cases hr : x.r = y.r
        · have hne1 : (x.r != y.r) = false := by simp [hr]
          have e1 : (x.r == y.r) = true := by simp [hr]
          rw [e1, Bool.true_and] at hp
          clear e1
          have hr := hide hr
          have hcall := fun W (hW : Bl wr W) => refSame07 A1 B1 a1 b1 x.s y.s W (by omega) (by omega) (hA1.bl hW) (hB1.bl hW)
          rw [hp] at hstep
          clear hp
          cases hq : same x.s y.s
          · have g := hide (hstep.2 hq)
            rw [hq] at hcall
            have hcall := hide hcall
            clear hq hstep
            go_wp2
            (refine wp_region_wd (by kernel_rfl) (by kernel_rfl) ?_
             repeat (go_big_quiet_step ((go_at_call 193; exact Calls.wd (hcall.out _ (Wd.h _)))))
             refine wpQuiet_nil ?_
             intro w2 hw'
             obtain ⟨⟨wx, hb2⟩, hw''⟩ := hw'
             subst hw'')
            go_wp2
            go_ret
            exact ⟨ret_bool g.out, hbl.trans hb2⟩
          · have g := hstep.1 hq
            rw [hq] at hcall
            have hcall := hide hcall
            clear hq hstep
            go_wp2
            (refine wp_region_wd (by kernel_rfl) (by kernel_rfl) ?_
             repeat (go_big_quiet_step ((go_at_call 193; exact Calls.wd (hcall.out _ (Wd.h _)))))
             refine wpQuiet_nil ?_
             intro w2 hw'
             obtain ⟨⟨wx, hb2⟩, hw''⟩ := hw'
             subst hw'')
            go_wp2
            go_roundw
            case rel => exact ⟨hbl.trans hb2, k + 1, by omega, by go_num, g⟩
            case measure => simp [intOf]; omega
        · have hne1 : (x.r != y.r) = true := by simp [hr]
          have e1 : (x.r == y.r) = false := by simp [hr]
          rw [e1, Bool.false_and] at hp
          clear e1 hr
          have g := hide (hstep.2 hp)
          clear hp hstep
          go_wp2
          (refine wp_region_wd (by kernel_rfl) (by kernel_rfl) ?_
           repeat (go_big_quiet_step ((fail)))
           refine wpQuiet_nil ?_
           intro w2 hw'
           obtain ⟨⟨wx, hb2⟩, hw''⟩ := hw'
           subst hw'')
          go_wp2
          go_ret
          exact ⟨ret_bool g.out, hbl.trans hb2⟩
      · have hkl : l.length ≤ k := by omega
        go_wp2
        go_ret
        exact ⟨ret_bool (drop_eq_end hf.out hkl (by omega)), hbl⟩
  · have hne1 : ((l.length : Int) != (m.length : Int)) = true := by simp; omega
    go_enter Tryz.func144, Tryz.ntmps144
    go_wp2
    go_ret
    exact ⟨ret_bool (ne_of_length hne), Bl.refl _⟩

end Go.Proofs.YteoodmilcpmmpaaGreat

namespace Go.Proofs.YteoodmilcpmmpaaGreat

open Go.RowKit

set_option maxRecDepth 100000 in
set_option maxHeartbeats 2000000 in
theorem refMay08 (A : Option Addr) (c : Nat) (l : List Times) (w : World) (hl : l.length ≤ maxLen) (hA : R cTimes 0 w A l) :
    Calls Tryz.prog 213 #[.slice A l.length c] w fun e w' => e = .returned (.bool (clockMay l)) ∧ Bl w w' := by
  unfold maxLen at hl
  go_enter Tryz.func213, Tryz.ntmps213
  go_wp2
  go_loopw [3] (fun i wr => Bl w wr ∧ ∃ (k : Nat) (last : Int), k ≤ l.length ∧ i = .int .i64 k ∧ -1 ≤ last ∧ last ≤ 255 ∧ (k = 0 ∧ last = -1 ∨ ∃ q, 0 < k ∧ l[k-1]? = some q ∧ last = q.r) ∧ Hid (clockMay l = clockFrom last (l.drop k))) (fun i _ => l.length - (intOf i).toNat)
  case atStart => exact ⟨Bl.refl _, 0, -1, Nat.zero_le _, rfl, by omega, by omega, .inl ⟨rfl, rfl⟩, rfl⟩
  case round =>
    obtain ⟨hbl, k, last, hk, rfl, hl0, hl1, hq, hf⟩ := hrel
    by_cases hlt : k < l.length
    · have hR := hA.bl hbl
      obtain ⟨b, off, rfl, _, hb⟩ := hR.addr (by omega)
      obtain ⟨x, hx⟩ := get_lt hlt
      obtain ⟨_, ho, B, d, hcd, hdm, c0, c1, hB⟩ := hR.times hx
      have C0 := fun p : Wd wr => Wd.cell c0 hb p
      have C1 := fun p : Wd wr => Wd.cell c1 hb p
      clear c0 c1
      have hd := hide (drop_cons hx)
      have hx := hide hx
      obtain ⟨o0, o1⟩ := ho
      have hsl : x.s.length ≤ maxLen := by omega
      have hsl' : x.s.length ≤ 9223372036854775807 := by unfold maxLen at hsl; omega
      have hi : (k : Int) < (l.length : Int) := by omega
      have key : ¬ (last < x.r ∧ x.r < 8 ∧ 1 ≤ x.s.length ∧ spansMay x.s = true) → false = clockMay l := fun h => (clockFrom_bad hf.out hd.out h).symm
      have good := clockFrom_good hf.out hd.out
      have key := hide key
      have good := hide good
      have hcall := hide (fun W (hW : Bl wr W) => refMay07 B d x.s W hsl (hB.bl hW))
      rcases Bool.eq_false_or_eq_true (decide (8 ≤ x.r)) with h1 | h1
      · go_wp2
        (refine wp_region_wd (by kernel_rfl) (by kernel_rfl) ?_
         repeat (go_big_quiet_step ((fail)))
         refine wpQuiet_nil ?_
         intro w2 hw'
         obtain ⟨⟨wx, hb2⟩, hw''⟩ := hw'
         subst hw'')
        go_wp2
        go_ret
        exact ⟨ret_bool (key.out (by have := of_decide_eq_true h1; omega)), hbl.trans hb2⟩
      have h1' := of_decide_eq_false h1
      -- what stands from the second test on, for both ways of the first round
      rcases hq with ⟨hk0, rfl⟩ | ⟨q, hk0, hq, rfl⟩
      · obtain rfl := hk0
        simp only [Nat.zero_mul, Nat.add_zero] at C0 C1
        rcases Bool.eq_false_or_eq_true (decide ((x.s.length : Int) < 1)) with h3 | h3
        · go_wp2
          (refine wp_region_wd (by kernel_rfl) (by kernel_rfl) ?_
           repeat (go_big_quiet_step ((fail)))
           refine wpQuiet_nil ?_
           intro w2 hw'
           obtain ⟨⟨wx, hb2⟩, hw''⟩ := hw'
           subst hw'')
          go_wp2
          go_ret
          exact ⟨ret_bool (key.out (by have := of_decide_eq_true h3; omega)), hbl.trans hb2⟩
        have h3' := of_decide_eq_false h3
        cases hm : spansMay x.s
        · replace hcall := hcall.out
          rw [hm] at hcall
          replace hcall := hide hcall
          have g := hide (key.out (by rw [hm]; simp))
          clear hm
          go_wp2
          (refine wp_region_wd (by kernel_rfl) (by kernel_rfl) ?_
           repeat (go_big_quiet_step ((go_at_call 227; exact Calls.wd (hcall.out _ (Wd.h _)))))
           refine wpQuiet_nil ?_
           intro w2 hw'
           obtain ⟨⟨wx, hb2⟩, hw''⟩ := hw'
           subst hw'')
          go_wp2
          go_ret
          exact ⟨ret_bool g.out, hbl.trans hb2⟩
        · replace hcall := hcall.out
          rw [hm] at hcall
          replace hcall := hide hcall
          have g := hide (good.out (by omega) (by omega) (by omega) hm)
          clear hm
          go_wp2
          (refine wp_region_wd (by kernel_rfl) (by kernel_rfl) ?_
           repeat (go_big_quiet_step ((go_at_call 227; exact Calls.wd (hcall.out _ (Wd.h _)))))
           refine wpQuiet_nil ?_
           intro w2 hw'
           obtain ⟨⟨wx, hb2⟩, hw''⟩ := hw'
           subst hw'')
          go_wp2
          go_roundw
          case rel => exact ⟨hbl.trans hb2, 1, _, by omega, by go_num, by omega, by omega, .inr ⟨x, by omega, hx.out, rfl⟩, g.out⟩
          case measure => simp [intOf]; omega
      · obtain ⟨_, hp, B', d', _, _, d0, _, _⟩ := hR.times hq
        have D0 := fun p : Wd wr => Wd.cell d0 hb p
        clear d0 hq
        obtain ⟨p0, p1⟩ := hp
        have h4' : decide (0 < (k : Int)) = true := by simp; omega
        have e1 : IntKind.i64.wrap ((k : Int) - 1) = (k : Int) - 1 := IntWalk.i64_in _ (by omega)
        have e2 : ((k : Int) - 1).toNat = k - 1 := by omega
        have e3 : (0 : Int) ≤ (k : Int) - 1 := by omega
        have e4 : (k : Int) - 1 < (l.length : Int) := by omega
        rcases Bool.eq_false_or_eq_true (decide (x.r ≤ q.r)) with h2 | h2
        · go_wp2
          (refine wp_region_wd (by kernel_rfl) (by kernel_rfl) ?_
           repeat (go_big_quiet_step ((fail)))
           refine wpQuiet_nil ?_
           intro w2 hw'
           obtain ⟨⟨wx, hb2⟩, hw''⟩ := hw'
           subst hw'')
          go_wp2
          go_ret
          exact ⟨ret_bool (key.out (by have := of_decide_eq_true h2; omega)), hbl.trans hb2⟩
        have h2' := of_decide_eq_false h2
        rcases Bool.eq_false_or_eq_true (decide ((x.s.length : Int) < 1)) with h3 | h3
        · go_wp2
          (refine wp_region_wd (by kernel_rfl) (by kernel_rfl) ?_
           repeat (go_big_quiet_step ((fail)))
           refine wpQuiet_nil ?_
           intro w2 hw'
           obtain ⟨⟨wx, hb2⟩, hw''⟩ := hw'
           subst hw'')
          go_wp2
          go_ret
          exact ⟨ret_bool (key.out (by have := of_decide_eq_true h3; omega)), hbl.trans hb2⟩
        have h3' := of_decide_eq_false h3
        cases hm : spansMay x.s
        · replace hcall := hcall.out
          rw [hm] at hcall
          replace hcall := hide hcall
          have g := hide (key.out (by rw [hm]; simp))
          clear hm
          go_wp2
          (refine wp_region_wd (by kernel_rfl) (by kernel_rfl) ?_
           repeat (go_big_quiet_step ((go_at_call 227; exact Calls.wd (hcall.out _ (Wd.h _)))))
           refine wpQuiet_nil ?_
           intro w2 hw'
           obtain ⟨⟨wx, hb2⟩, hw''⟩ := hw'
           subst hw'')
          go_wp2
          go_ret
          exact ⟨ret_bool g.out, hbl.trans hb2⟩
        · replace hcall := hcall.out
          rw [hm] at hcall
          replace hcall := hide hcall
          have g := hide (good.out (by omega) (by omega) (by omega) hm)
          clear hm
          go_wp2
          (refine wp_region_wd (by kernel_rfl) (by kernel_rfl) ?_
           repeat (go_big_quiet_step ((go_at_call 227; exact Calls.wd (hcall.out _ (Wd.h _)))))
           refine wpQuiet_nil ?_
           intro w2 hw'
           obtain ⟨⟨wx, hb2⟩, hw''⟩ := hw'
           subst hw'')
          go_wp2
          go_roundw
          case rel => exact ⟨hbl.trans hb2, k + 1, _, by omega, by go_num, by omega, by omega, .inr ⟨x, by omega, hx.out, rfl⟩, g.out⟩
          case measure => simp [intOf]; omega
    · have hkl : l.length ≤ k := by omega
      go_wp2
      go_ret
      exact ⟨ret_bool (by rw [hf.out, List.drop_eq_nil_of_le hkl]; rfl), hbl⟩

end Go.Proofs.YteoodmilcpmmpaaGreat

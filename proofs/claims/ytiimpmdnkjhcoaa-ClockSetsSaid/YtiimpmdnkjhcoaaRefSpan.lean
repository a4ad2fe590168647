/-
  The walks of the references of layer 7.
-/
import Derived.Test.YtiimpmdnkjhcoaaSpan
namespace Go.Proofs.Ytiimpmdnkjhcoaa
open Go.RowKit

set_option maxHeartbeats 1000000 in
theorem refMay07 (A : Option Addr) (c : Nat) (l : List Span) (w : World) (hl : l.length ≤ maxLen) (hA : R cSpan 0 w A l) :
    Calls Try.prog 77 #[.slice A l.length c] w fun e w' => e = .returned (.bool (spansMay l)) ∧ Bl w w' := by
  unfold maxLen at hl
  go_enter Try.func77, Try.ntmps77
  go_wp2
  go_loopw [3] (fun i wr => Bl w wr ∧ ∃ (k : Nat) (least : Int), k ≤ l.length ∧ i = .int .i64 k ∧ 0 ≤ least ∧ least ≤ 1073741826 ∧ (k = 0 ∧ least = 1 ∨ ∃ q, 0 < k ∧ l[k-1]? = some q ∧ least = q.t + 2) ∧ Hid (spansFrom 1 l = spansFrom least (l.drop k))) (fun i _ => l.length - (intOf i).toNat)
  case atStart => exact ⟨Bl.refl _, 0, 1, Nat.zero_le _, rfl, by omega, by omega, .inl ⟨rfl, rfl⟩, rfl⟩
  case round =>
    obtain ⟨hbl, k, least, hk, rfl, hl0, hl1, hq, hf⟩ := hrel
    by_cases hlt : k < l.length
    · have hR := hA.bl hbl
      obtain ⟨b, off, rfl, _, hb⟩ := hR.addr (by omega)
      obtain ⟨x, hx⟩ := get_lt hlt
      obtain ⟨_, ho, c0, c1⟩ := hR.span hx
      have C0 := fun p : Wd wr => Wd.cell c0 hb p
      have C1 := fun p : Wd wr => Wd.cell c1 hb p
      clear c0 c1
      have hd := hide (drop_cons hx)
      have hx := hide hx
      obtain ⟨o0, o1, o2, o3⟩ := ho
      have hi : (k : Int) < (l.length : Int) := by omega
      have key : ¬ (least ≤ x.f ∧ x.f ≤ x.t ∧ x.t ≤ 1073741824) → false = spansMay l := by
        intro h
        have := spansFrom_bad hf.out hd.out h
        unfold spansMay; rw [this]; simp
      have hl1' : 1 ≤ least := by
        rcases hq with ⟨_, h⟩ | ⟨q, _, h, h'⟩
        · omega
        · obtain ⟨_, ho', _⟩ := hR.span h
          obtain ⟨p0, p1, p2, p3⟩ := ho'
          omega
      rcases Bool.eq_false_or_eq_true (decide (x.f < 1)) with h1 | h1
      · go_wp2
        (refine wp_region_wd (by kernel_rfl) (by kernel_rfl) ?_
         repeat (go_big_quiet_step ((fail)))
         refine wpQuiet_nil ?_
         intro w2 hw'
         obtain ⟨⟨wx, hb2⟩, hw''⟩ := hw'
         subst hw'')
        go_wp2
        go_ret
        exact ⟨ret_bool (key (by have := of_decide_eq_true h1; omega)), hbl.trans hb2⟩
      rcases Bool.eq_false_or_eq_true (decide (x.t < x.f)) with h2 | h2
      · go_wp2
        (refine wp_region_wd (by kernel_rfl) (by kernel_rfl) ?_
         repeat (go_big_quiet_step ((fail)))
         refine wpQuiet_nil ?_
         intro w2 hw'
         obtain ⟨⟨wx, hb2⟩, hw''⟩ := hw'
         subst hw'')
        go_wp2
        go_ret
        exact ⟨ret_bool (key (by have := of_decide_eq_true h2; omega)), hbl.trans hb2⟩
      rcases Bool.eq_false_or_eq_true (decide (1073741824 < x.t)) with h3 | h3
      · go_wp2
        (refine wp_region_wd (by kernel_rfl) (by kernel_rfl) ?_
         repeat (go_big_quiet_step ((fail)))
         refine wpQuiet_nil ?_
         intro w2 hw'
         obtain ⟨⟨wx, hb2⟩, hw''⟩ := hw'
         subst hw'')
        go_wp2
        go_ret
        exact ⟨ret_bool (key (by have := of_decide_eq_true h3; omega)), hbl.trans hb2⟩
      simp only [decide_eq_false_iff_not] at h1 h2 h3
      have good : ∀ h : least ≤ x.f, spansFrom 1 l = spansFrom (x.t + 2) (l.drop (k + 1)) := fun h => spansFrom_good hf.out hd.out h (by omega) (by omega)
      rcases hq with ⟨rfl, rfl⟩ | ⟨q, hk0, hq, rfl⟩
      · have g := hide (good (by omega))
        simp only [Nat.zero_mul, Nat.add_zero] at C0 C1
        clear good key
        have h1 : decide (x.f < 1) = false := by simpa using h1
        have h2 : decide (x.t < x.f) = false := by simpa using h2
        have h3 : decide (1073741824 < x.t) = false := by simpa using h3
        go_wp2
        (refine wp_region_wd (by kernel_rfl) (by kernel_rfl) ?_
         repeat (go_big_quiet_step ((fail)))
         refine wpQuiet_nil ?_
         intro w2 hw'
         obtain ⟨⟨wx, hb2⟩, hw''⟩ := hw'
         subst hw'')
        go_wp2
        go_roundw
        case rel => exact ⟨hbl.trans hb2, 1, _, by omega, by go_num, by omega, by omega, .inr ⟨x, by omega, hx.out, rfl⟩, g.out⟩
        case measure => simp [intOf]; omega
      · obtain ⟨_, hp, d0, d1⟩ := hR.span hq
        have D0 := fun p : Wd wr => Wd.cell d0 hb p
        have D1 := fun p : Wd wr => Wd.cell d1 hb p
        clear d0 d1 hq
        obtain ⟨p0, p1, p2, p3⟩ := hp
        have h1' : decide (x.f < 1) = false := by simpa using h1
        have h2' : decide (x.t < x.f) = false := by simpa using h2
        have h3' : decide (1073741824 < x.t) = false := by simpa using h3
        have h4' : decide (0 < (k : Int)) = true := by simp; omega
        have e1 : IntKind.i64.wrap ((k : Int) - 1) = (k : Int) - 1 := IntWalk.i64_in _ (by omega)
        have e2 : ((k : Int) - 1).toNat = k - 1 := by omega
        have e3 : (0 : Int) ≤ (k : Int) - 1 := by omega
        have e4 : (k : Int) - 1 < (l.length : Int) := by omega
        rcases Bool.eq_false_or_eq_true (decide (x.f < q.t + 2)) with h5 | h5
        · go_wp2
          (refine wp_region_wd (by kernel_rfl) (by kernel_rfl) ?_
           repeat (go_big_quiet_step ((fail)))
           refine wpQuiet_nil ?_
           intro w2 hw'
           obtain ⟨⟨wx, hb2⟩, hw''⟩ := hw'
           subst hw'')
          go_wp2
          go_ret
          exact ⟨ret_bool (key (by have := of_decide_eq_true h5; omega)), hbl.trans hb2⟩
        · have g := hide (good (by simpa using h5))
          clear good key
          go_wp2
          (refine wp_region_wd (by kernel_rfl) (by kernel_rfl) ?_
           repeat (go_big_quiet_step ((fail)))
           refine wpQuiet_nil ?_
           intro w2 hw'
           obtain ⟨⟨wx, hb2⟩, hw''⟩ := hw'
           subst hw'')
          go_wp2
          go_roundw
          case rel => exact ⟨hbl.trans hb2, k + 1, _, by omega, by go_num, by omega, by omega, .inr ⟨x, by omega, hx.out, rfl⟩, g.out⟩
          case measure => simp [intOf]; omega
    · have hkl : l.length ≤ k := by omega
      go_wp2
      go_ret
      exact ⟨ret_bool (by unfold spansMay; rw [hf.out, List.drop_eq_nil_of_le hkl]; simp [spansFrom]; omega), hbl⟩

set_option maxHeartbeats 400000 in
theorem refTwin07 (A : Option Addr) (c : Nat) (l : List Span) (w : World) (hl : l.length ≤ 1048576) (hA : R cSpan 0 w A l) :
    Calls Try.prog 34 #[.slice A l.length c] w (New cSpan l w) := by
  obtain ⟨i0, hi, hz0, hz1, hz2⟩ := info_parts Try.infoSpan
  go_enter Try.func34, Try.ntmps34
  go_wp2_with (at_builtin
               refine wpList_append_any2 (C := cSpan) (xs := []) (ys := l) rfl (.tmp 4) (.tmp 5) _ rfl 36 i0 _ 8 Try.underlying22 hi hz0 hz1 hz2 rfl (.slice none 0 0) w.heap.size rfl Own.nil A l.length c rfl rfl (hA.source flatSpan) ?c1 ?c2 ?c3 ?_
               case c1 => simp only [List.length_nil, maxLen]; omega
               case c2 => simp only [List.length_nil]; omega
               case c3 => exact Nat.le_refl _
               intro v1 w1 hown hg _)
  go_ret
  have hbl := (Bl.refl w).app (Own.nil (C := cSpan) (e := 36)) (Nat.le_refl _) hg
  simp only [List.nil_append] at hown
  obtain ⟨A', c', rfl, hr, h1, h2⟩ := hown.reads
  exact ⟨A', c', rfl, h1, h2, hr, hbl⟩

set_option maxHeartbeats 400000 in
theorem refSame07 (A B : Option Addr) (c d : Nat) (l m : List Span) (w : World) (hl : l.length ≤ maxLen) (_hm : m.length ≤ maxLen) (hA : R cSpan 0 w A l) (hB : R cSpan 0 w B m) :
    Calls Try.prog 23 #[.slice A l.length c, .slice B m.length d] w fun e w' => e = .returned (.bool (same l m)) ∧ Bl w w' := by
  unfold maxLen at hl
  by_cases hne : l.length = m.length
  · have hne1 : ((l.length : Int) != (m.length : Int)) = false := by simp [hne]
    have hle : l.length ≤ m.length := by omega
    have hle' : m.length ≤ l.length := by omega
    clear hne
    go_enter Try.func23, Try.ntmps23
    go_wp2
    go_loopw [5] (fun i wr => Bl w wr ∧ ∃ k : Nat, k ≤ l.length ∧ i = .int .i64 k ∧ Hid (decide (l = m) = decide (l.drop k = m.drop k))) (fun i _ => l.length - (intOf i).toNat)
    case atStart => exact ⟨Bl.refl _, 0, Nat.zero_le _, rfl, rfl⟩
    case round =>
      obtain ⟨hbl, k, hk, rfl, hf⟩ := hrel
      by_cases hlt : k < l.length
      · have hR := hA.bl hbl
        have hS := hB.bl hbl
        obtain ⟨b, off, rfl, _, hb⟩ := hR.addr (by omega)
        obtain ⟨b', off', rfl, _, hb'⟩ := hS.addr (by omega)
        obtain ⟨x, hx⟩ := get_lt hlt
        obtain ⟨y, hy⟩ := get_lt (show k < m.length by omega)
        obtain ⟨_, ho, c0, c1⟩ := hR.span hx
        obtain ⟨_, ho', d0, d1⟩ := hS.span hy
        have C0 := fun p : Wd wr => Wd.cell c0 hb p
        have C1 := fun p : Wd wr => Wd.cell c1 hb p
        have D0 := fun p : Wd wr => Wd.cell d0 hb' p
        have D1 := fun p : Wd wr => Wd.cell d1 hb' p
        clear c0 c1 d0 d1
        have hx := hide hx
        have hy := hide hy
        have hi : (k : Int) < (l.length : Int) := by omega
        have hi' : (k : Int) < (m.length : Int) := by omega
        have hne := run_neqSpan x y
        cases hq : neqSpan x y
        · have g := hide (drop_eq_step hf.out hx.out hy.out (neqSpan_false hq))
          rw [hq] at hne
          clear hq
          go_wp2
          (refine wp_region_wd (by kernel_rfl) (by kernel_rfl) ?_
           repeat (go_big_quiet_step ((fail)))
           refine wpQuiet_nil ?_
           intro w2 hw'
           obtain ⟨⟨wx, hb2⟩, hw''⟩ := hw'
           subst hw'')
          go_wp2
          go_roundw
          case rel => exact ⟨hbl.trans hb2, k + 1, by omega, by go_num, g⟩
          case measure => simp [intOf]; omega
        · have g := hide (drop_ne_step hf.out hx.out hy.out (neqSpan_true hq))
          rw [hq] at hne
          clear hq
          go_wp2
          (refine wp_region_wd (by kernel_rfl) (by kernel_rfl) ?_
           repeat (go_big_quiet_step ((fail)))
           refine wpQuiet_nil ?_
           intro w2 hw'
           obtain ⟨⟨wx, hb2⟩, hw''⟩ := hw'
           subst hw'')
          go_wp2
          go_ret
          exact ⟨ret_bool g.out, hbl.trans hb2⟩
      · have hkl : l.length ≤ k := by omega
        go_wp2
        go_ret
        exact ⟨ret_bool (drop_eq_end hf.out hkl (by omega)), hbl⟩
  · have hne1 : ((l.length : Int) != (m.length : Int)) = true := by simp; omega
    go_enter Try.func23, Try.ntmps23
    go_wp2
    go_ret
    exact ⟨ret_bool (ne_of_length hne), Bl.refl _⟩

set_option maxHeartbeats 400000 in
theorem refMany07 (A : Option Addr) (c : Nat) (l : List Span) (w : World) (hlen : l.length ≤ 1024) (hfr : spansFrom 1 l = true) (hA : R cSpan 0 w A l) :
    Calls Try.prog 83 #[.slice A l.length c] w fun e w' => e = .returned (.int .i64 (spansMany l)) ∧ Bl w w' := by
  have hfr := hide hfr
  go_enter Try.func83, Try.ntmps83
  go_wp2
  go_loopw [3, 4] (fun n i wr => Bl w wr ∧ ∃ (k : Nat) (least s : Int), k ≤ l.length ∧ i = .int .i64 k ∧ n = .int .i64 s ∧ 0 ≤ s ∧ s ≤ 1073741824 * k ∧ 1 ≤ least ∧ Hid (spansMany l = s + spansMany (l.drop k) ∧ spansFrom least (l.drop k) = true)) (fun _ i _ => l.length - (intOf i).toNat)
  case atStart => exact ⟨Bl.refl _, 0, 1, 0, Nat.zero_le _, rfl, rfl, by omega, by omega, by omega, by simp, hfr.out⟩
  case round =>
    obtain ⟨hbl, k, least, s, hk, rfl, rfl, hs0, hs1, hl1, hf⟩ := hrel
    by_cases hlt : k < l.length
    · have hR := hA.bl hbl
      obtain ⟨b, off, rfl, _, hb⟩ := hR.addr (by omega)
      obtain ⟨x, hx⟩ := get_lt hlt
      obtain ⟨_, ho, c0, c1⟩ := hR.span hx
      have hd := hide (drop_cons hx)
      clear hx
      obtain ⟨o0, o1, o2, o3⟩ := ho
      have hx : least ≤ x.f ∧ x.f ≤ x.t ∧ x.t ≤ 1073741824 ∧ spansFrom (x.t + 2) (l.drop (k + 1)) = true := by
        have := hf.out.2
        rw [hd.out, spansFrom] at this
        simp only [Bool.and_eq_true, decide_eq_true_eq] at this
        exact ⟨this.1.1.1, this.1.1.2, this.1.2, this.2⟩
      obtain ⟨x0, x1, x2, x3⟩ := hx
      have x3 := hide x3
      have hb2 : 1073741824 * (k : Int) ≤ 1073741824 * 1024 := by omega
      have C0 := fun p : Wd wr => Wd.cell c0 hb p
      have C1 := fun p : Wd wr => Wd.cell c1 hb p
      clear c0 c1
      have hi : (k : Int) < (l.length : Int) := by omega
      have e1 : IntKind.u32.wrap (x.t - x.f) = x.t - x.f := IntWalk.u32_in _ (by omega)
      have e2 : IntKind.i64.wrap (x.t - x.f + 1) = x.t - x.f + 1 := IntWalk.i64_in _ (by omega)
      have e3 : IntKind.i64.wrap (s + (x.t - x.f + 1)) = s + (x.t - x.f + 1) := IntWalk.i64_in _ (by omega)
      go_wp2
      (refine wp_region_wd (by kernel_rfl) (by kernel_rfl) ?_
       repeat (go_big_quiet_step ((fail)))
       refine wpQuiet_nil ?_
       intro w2 hw'
       obtain ⟨⟨wx, hbq⟩, hw''⟩ := hw'
       subst hw'')
      clear e1 e2 e3
      go_wp2
      go_roundw
      case rel => exact ⟨hbl.trans hbq, k + 1, x.t + 2, s + (x.t - x.f + 1), by omega, by go_num, rfl, by omega, by push_cast; omega, by omega, by rw [hf.out.1, hd.out, spansMany]; omega, x3.out⟩
      case measure => simp [intOf]; omega
    · have hkl : l.length ≤ k := by omega
      go_wp2
      go_ret
      exact ⟨ret_int (by rw [hf.out.1, List.drop_eq_nil_of_le hkl]; simp [spansMany]), hbl⟩
end Go.Proofs.Ytiimpmdnkjhcoaa

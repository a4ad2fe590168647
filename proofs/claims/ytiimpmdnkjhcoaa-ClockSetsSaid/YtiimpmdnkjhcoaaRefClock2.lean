/-
  The walks of the references May and Ids of layer 8.
-/
import Derived.Test.YtiimpmdnkjhcoaaRefClock
namespace Go.Proofs.Ytiimpmdnkjhcoaa
open Go.RowKit

set_option maxRecDepth 100000 in
set_option maxHeartbeats 2000000 in
theorem refMay08 (A : Option Addr) (c : Nat) (l : List Times) (w : World) (hl : l.length ≤ maxLen) (hA : R cTimes 0 w A l) :
    Calls Try.prog 69 #[.slice A l.length c] w fun e w' => e = .returned (.bool (clockMay l)) ∧ Bl w w' := by
  unfold maxLen at hl
  go_enter Try.func69, Try.ntmps69
  go_wp2
  go_loopw [3] (fun i wr => Bl w wr ∧ ∃ (k : Nat) (last : Int), k ≤ l.length ∧ i = .int .i64 k ∧ -1 ≤ last ∧ last ≤ 255 ∧ (k = 0 ∧ last = -1 ∨ ∃ q, 0 < k ∧ l[k-1]? = some q ∧ last = q.r) ∧ Hid (clockMay l = clockFrom last (l.drop k))) (fun i _ => l.length - (intOf i).toNat)
  case atStart => exact ⟨Bl.refl _, 0, -1, Nat.zero_le _, rfl, by omega, by omega, .inl ⟨rfl, rfl⟩, rfl⟩
  case round =>
    obtain ⟨hbl, k, last, hk, rfl, hl0, hl1, hq, hf⟩ := hrel
    by_cases hlt : k < l.length
    · have hR := hA.bl hbl
      obtain ⟨b, off, rfl, _, hb⟩ := hR.addr (by omega)
      obtain ⟨x, hx⟩ := get_lt hlt
      obtain ⟨_, ho, B, d, hcd, hdm, c0, c1, hB⟩ := hR.times hx
      have C0 := fun p : Wd wr => Wd.cell c0 hb p
      have C1 := fun p : Wd wr => Wd.cell c1 hb p
      clear c0 c1
      have hd := hide (drop_cons hx)
      have hx := hide hx
      obtain ⟨o0, o1⟩ := ho
      have hsl : x.s.length ≤ maxLen := by omega
      have hsl' : x.s.length ≤ 9223372036854775807 := by unfold maxLen at hsl; omega
      have hi : (k : Int) < (l.length : Int) := by omega
      have key : ¬ (last < x.r ∧ x.r < 8 ∧ 1 ≤ x.s.length ∧ spansMay x.s = true) → false = clockMay l := fun h => (clockFrom_bad hf.out hd.out h).symm
      have good := clockFrom_good hf.out hd.out
      have key := hide key
      have good := hide good
      have hcall := hide (fun W (hW : Bl wr W) => refMay07 B d x.s W hsl (hB.bl hW))
      rcases Bool.eq_false_or_eq_true (decide (8 ≤ x.r)) with h1 | h1
      · go_wp2
        (refine wp_region_wd (by kernel_rfl) (by kernel_rfl) ?_
         repeat (go_big_quiet_step ((fail)))
         refine wpQuiet_nil ?_
         intro w2 hw'
         obtain ⟨⟨wx, hb2⟩, hw''⟩ := hw'
         subst hw'')
        go_wp2
        go_ret
        exact ⟨ret_bool (key.out (by have := of_decide_eq_true h1; omega)), hbl.trans hb2⟩
      have h1' := of_decide_eq_false h1
      -- what stands from the second test on, for both ways of the first round
      rcases hq with ⟨hk0, rfl⟩ | ⟨q, hk0, hq, rfl⟩
      · obtain rfl := hk0
        simp only [Nat.zero_mul, Nat.add_zero] at C0 C1
        rcases Bool.eq_false_or_eq_true (decide ((x.s.length : Int) < 1)) with h3 | h3
        · go_wp2
          (refine wp_region_wd (by kernel_rfl) (by kernel_rfl) ?_
           repeat (go_big_quiet_step ((fail)))
           refine wpQuiet_nil ?_
           intro w2 hw'
           obtain ⟨⟨wx, hb2⟩, hw''⟩ := hw'
           subst hw'')
          go_wp2
          go_ret
          exact ⟨ret_bool (key.out (by have := of_decide_eq_true h3; omega)), hbl.trans hb2⟩
        have h3' := of_decide_eq_false h3
        cases hm : spansMay x.s
        · replace hcall := hcall.out
          rw [hm] at hcall
          replace hcall := hide hcall
          have g := hide (key.out (by rw [hm]; simp))
          clear hm
          go_wp2
          (refine wp_region_wd (by kernel_rfl) (by kernel_rfl) ?_
           repeat (go_big_quiet_step ((go_at_call 77; exact Calls.wd (hcall.out _ (Wd.h _)))))
           refine wpQuiet_nil ?_
           intro w2 hw'
           obtain ⟨⟨wx, hb2⟩, hw''⟩ := hw'
           subst hw'')
          go_wp2
          go_ret
          exact ⟨ret_bool g.out, hbl.trans hb2⟩
        · replace hcall := hcall.out
          rw [hm] at hcall
          replace hcall := hide hcall
          have g := hide (good.out (by omega) (by omega) (by omega) hm)
          clear hm
          go_wp2
          (refine wp_region_wd (by kernel_rfl) (by kernel_rfl) ?_
           repeat (go_big_quiet_step ((go_at_call 77; exact Calls.wd (hcall.out _ (Wd.h _)))))
           refine wpQuiet_nil ?_
           intro w2 hw'
           obtain ⟨⟨wx, hb2⟩, hw''⟩ := hw'
           subst hw'')
          go_wp2
          go_roundw
          case rel => exact ⟨hbl.trans hb2, 1, _, by omega, by go_num, by omega, by omega, .inr ⟨x, by omega, hx.out, rfl⟩, g.out⟩
          case measure => simp [intOf]; omega
      · obtain ⟨_, hp, B', d', _, _, d0, _, _⟩ := hR.times hq
        have D0 := fun p : Wd wr => Wd.cell d0 hb p
        clear d0 hq
        obtain ⟨p0, p1⟩ := hp
        have h4' : decide (0 < (k : Int)) = true := by simp; omega
        have e1 : IntKind.i64.wrap ((k : Int) - 1) = (k : Int) - 1 := IntWalk.i64_in _ (by omega)
        have e2 : ((k : Int) - 1).toNat = k - 1 := by omega
        have e3 : (0 : Int) ≤ (k : Int) - 1 := by omega
        have e4 : (k : Int) - 1 < (l.length : Int) := by omega
        rcases Bool.eq_false_or_eq_true (decide (x.r ≤ q.r)) with h2 | h2
        · go_wp2
          (refine wp_region_wd (by kernel_rfl) (by kernel_rfl) ?_
           repeat (go_big_quiet_step ((fail)))
           refine wpQuiet_nil ?_
           intro w2 hw'
           obtain ⟨⟨wx, hb2⟩, hw''⟩ := hw'
           subst hw'')
          go_wp2
          go_ret
          exact ⟨ret_bool (key.out (by have := of_decide_eq_true h2; omega)), hbl.trans hb2⟩
        have h2' := of_decide_eq_false h2
        rcases Bool.eq_false_or_eq_true (decide ((x.s.length : Int) < 1)) with h3 | h3
        · go_wp2
          (refine wp_region_wd (by kernel_rfl) (by kernel_rfl) ?_
           repeat (go_big_quiet_step ((fail)))
           refine wpQuiet_nil ?_
           intro w2 hw'
           obtain ⟨⟨wx, hb2⟩, hw''⟩ := hw'
           subst hw'')
          go_wp2
          go_ret
          exact ⟨ret_bool (key.out (by have := of_decide_eq_true h3; omega)), hbl.trans hb2⟩
        have h3' := of_decide_eq_false h3
        cases hm : spansMay x.s
        · replace hcall := hcall.out
          rw [hm] at hcall
          replace hcall := hide hcall
          have g := hide (key.out (by rw [hm]; simp))
          clear hm
          go_wp2
          (refine wp_region_wd (by kernel_rfl) (by kernel_rfl) ?_
           repeat (go_big_quiet_step ((go_at_call 77; exact Calls.wd (hcall.out _ (Wd.h _)))))
           refine wpQuiet_nil ?_
           intro w2 hw'
           obtain ⟨⟨wx, hb2⟩, hw''⟩ := hw'
           subst hw'')
          go_wp2
          go_ret
          exact ⟨ret_bool g.out, hbl.trans hb2⟩
        · replace hcall := hcall.out
          rw [hm] at hcall
          replace hcall := hide hcall
          have g := hide (good.out (by omega) (by omega) (by omega) hm)
          clear hm
          go_wp2
          (refine wp_region_wd (by kernel_rfl) (by kernel_rfl) ?_
           repeat (go_big_quiet_step ((go_at_call 77; exact Calls.wd (hcall.out _ (Wd.h _)))))
           refine wpQuiet_nil ?_
           intro w2 hw'
           obtain ⟨⟨wx, hb2⟩, hw''⟩ := hw'
           subst hw'')
          go_wp2
          go_roundw
          case rel => exact ⟨hbl.trans hb2, k + 1, _, by omega, by go_num, by omega, by omega, .inr ⟨x, by omega, hx.out, rfl⟩, g.out⟩
          case measure => simp [intOf]; omega
    · have hkl : l.length ≤ k := by omega
      go_wp2
      go_ret
      exact ⟨ret_bool (by rw [hf.out, List.drop_eq_nil_of_le hkl]; rfl), hbl⟩

set_option maxHeartbeats 400000 in
theorem refIds08 (A : Option Addr) (c : Nat) (l : List Times) (w : World) (hl : l.length ≤ maxLen) (hA : R cTimes 0 w A l) :
    Calls Try.prog 48 #[.slice A l.length c] w (New2 cId (clockIds l) (clockIdsErr l) w) := by
  cases hm : clockMay l
  · have e1 : clockIds l = [] := by unfold clockIds; rw [hm]; rfl
    have e2 : clockIdsErr l = 8 := by unfold clockIdsErr; rw [hm]; rfl
    rw [e1, e2]
    clear e1 e2
    go_enter Try.func48, Try.ntmps48
    go_wp2_with (go_at_call 69; refine (refMay08 A c l _ hl hA).mono ?_; rintro e w1 ⟨rfl, hb⟩; rw [hm])
    go_ret2
    exact ⟨none, 0, rfl, Nat.le_refl _, by unfold maxLen; omega, R.nil, hb⟩
  have hm' := hide hm
  by_cases hbig : 1024 < clockMany l
  · have e1 : clockIds l = [] := by unfold clockIds; rw [hm, if_pos rfl, if_neg (by omega)]
    have e2 : clockIdsErr l = 4 := by unfold clockIdsErr; rw [hm, if_pos rfl, if_neg (by omega)]
    rw [e1, e2]
    clear e1 e2
    go_enter Try.func48, Try.ntmps48
    go_wp2_with (first | (go_at_call 69; refine (refMay08 A c l _ hl hA).mono ?_; rintro e w1 ⟨rfl, hb⟩; rw [hm]) | (go_at_call 85; refine (refMany08 A c l _ hm'.out (hA.bl hb)).mono ?_; rintro e w2 ⟨rfl, hb2⟩))
    go_ret2
    exact ⟨none, 0, rfl, Nat.le_refl _, by unfold maxLen; omega, R.nil, hb.trans hb2⟩
  · have e1 : clockIds l = clockAll l := by unfold clockIds; rw [hm, if_pos rfl, if_pos (by omega)]
    have e2 : clockIdsErr l = 0 := by unfold clockIdsErr; rw [hm, if_pos rfl, if_pos (by omega)]
    rw [e1, e2]
    clear e1 e2
    have hbig : clockMany l ≤ 1024 := by omega
    have hbig' := hide hbig
    go_enter Try.func48, Try.ntmps48
    go_wp2_with (first | (go_at_call 69; refine (refMay08 A c l _ hl hA).mono ?_; rintro e w1 ⟨rfl, hb⟩; rw [hm]) | (go_at_call 85; refine (refMany08 A c l _ hm'.out (hA.bl hb)).mono ?_; rintro e w2 ⟨rfl, hb2⟩) | (go_at_call 86; refine (refAll08 A c l _ hm'.out hbig'.out (hA.bl (hb.trans hb2))).mono ?_; rintro e w3 ⟨A', c', rfl, h1, h2, hr, hb3⟩))
    go_ret2
    exact ⟨A', c', rfl, h1, h2, hr.more ((hb.trans hb2).size), (hb.trans hb2).trans hb3⟩
end Go.Proofs.Ytiimpmdnkjhcoaa

/-
  The walks of the references Chunks and One of layer 19.
-/
import Derived.Test.YteoodmilcpmmpaaGreatOwnB
namespace Go.Proofs.YteoodmilcpmmpaaGreat

open Go.RowKit

theorem refChunks19 (n : Int) (w : World) (h0 : 0 ≤ n) (h1 : n ≤ 1099511627776) :
    Calls Tryz.prog 215 #[.int .i64 n] w fun e w' => e = .returned (.int .i64 ((n + 7) / 8)) ∧ Bl w w' := by
  go_enter Tryz.func215, Tryz.ntmps215
  go_wp2
  go_ret
  exact ⟨ret_int (by omega), Bl.refl _⟩

set_option maxRecDepth 100000 in
set_option maxHeartbeats 2000000 in
theorem refOne19 (x : Entry) (A B : Option Addr) (c d : Nat) (w : World) (hx : x.ok) (hl : x.snap.length ≤ maxLen) (hg : x.got.length ≤ maxLen) (hA : R cTimes 0 w A x.snap) :
    Calls Tryz.prog 187 #[.agg #[.int .u32 x.id.t, .int .u8 x.id.r, .bool x.ready, .bool x.pin, .int .i64 x.used, .bool x.known, .slice A x.snap.length c, .slice B x.got.length d]] w fun e w' => e = .returned (.bool (entryMay x)) ∧ Bl w w' := by
  have hg' := hg
  have hl' := hl
  unfold maxLen at hg' hl'
  obtain ⟨-, u0, u1⟩ := hx
  have hne := run_neqZero x.id
  have hm5 := fun W => refMay05 x.id W
  have hway : (neqId x.id ⟨0, 0⟩ = true ∧ idMay x.id = false) ∨ (neqId x.id ⟨0, 0⟩ = false ∧ idMay x.id = idMay x.id ∧ entryHead x = (decide (0 ≤ x.used) && decide (x.used ≤ 1099511627776))) ∨ (neqId x.id ⟨0, 0⟩ = true ∧ idMay x.id = true ∧ entryHead x = (decide (0 ≤ x.used) && decide (x.used ≤ 1099511627776))) := by
    unfold entryHead
    cases neqId x.id ⟨0, 0⟩ <;> cases idMay x.id <;> simp
  rcases hway with ⟨hz, hm⟩ | ⟨hz, hm, hh⟩ | ⟨hz, hm, hh⟩
  · have g := hide (show false = entryMay x by unfold entryMay entryHead; rw [hz, hm]; rfl)
    rw [hz] at hne
    rw [hm] at hm5
    replace hm5 := hide hm5
    clear hz hm
    go_enter Tryz.func187, Tryz.ntmps187
    go_wp2_with (go_at_call 134; refine (hm5.out _).mono ?_; rintro e w1 ⟨rfl, hb1⟩; have hc1 := hb1.cells; have hz1 := lt_of_alloc hb1)
    go_ret
    exact ⟨ret_bool g.out, ((Bl.refl _).alloc _).trans hb1⟩
  all_goals
    rw [hz] at hne
    rw [hm] at hm5
    replace hm5 := hide hm5
    clear hz hm
    have hmay : entryMay x = ((decide (0 ≤ x.used) && decide (x.used ≤ 1099511627776)) && entryTail x) := by unfold entryMay; rw [hh]
    clear hh
    by_cases hu : x.used < 0
    · have g := hide (show false = entryMay x by rw [hmay, decide_eq_false (by omega)]; rfl)
      clear hmay
      go_enter Tryz.func187, Tryz.ntmps187
      go_wp2_with (go_at_call 134; refine (hm5.out _).mono ?_; rintro e w1 ⟨rfl, hb1⟩; have hc1 := hb1.cells; have hz1 := lt_of_alloc hb1; have hbw := ((Bl.refl w).alloc _).trans hb1)
      go_ret
      exact ⟨ret_bool g.out, by first | exact hbw | exact (Bl.refl _).alloc _⟩
    by_cases hv : 1099511627776 < x.used
    · have g := hide (show false = entryMay x by rw [hmay, decide_eq_false (show ¬ x.used ≤ _ by omega), Bool.and_false]; rfl)
      have hu' : 0 ≤ x.used := by omega
      clear hmay hu
      go_enter Tryz.func187, Tryz.ntmps187
      go_wp2_with (go_at_call 134; refine (hm5.out _).mono ?_; rintro e w1 ⟨rfl, hb1⟩; have hc1 := hb1.cells; have hz1 := lt_of_alloc hb1; have hbw := ((Bl.refl w).alloc _).trans hb1)
      go_ret
      exact ⟨ret_bool g.out, by first | exact hbw | exact (Bl.refl _).alloc _⟩
    have hu' : 0 ≤ x.used := by omega
    have hv' : x.used ≤ 1099511627776 := by omega
    rw [decide_eq_true hu', decide_eq_true hv', Bool.and_self, Bool.true_and] at hmay
    clear hu hv
    cases hk : x.known
    · have ht : entryTail x = (decide (x.snap.length = 0) && decide (x.got.length = 0)) := by unfold entryTail; rw [hk]; rfl
      rw [ht] at hmay
      clear ht
      by_cases h1 : x.snap.length = 0
      · have h1' : ((x.snap.length : Int) == 0) = true := by simp [h1]
        by_cases h2 : x.got.length = 0
        · have h2' : ((x.got.length : Int) == 0) = true := by simp [h2]
          have g := hide (show true = entryMay x by rw [hmay, h1, h2]; rfl)
          clear hmay h1 h2
          go_enter Tryz.func187, Tryz.ntmps187
          go_wp2_with (go_at_call 134; refine (hm5.out _).mono ?_; rintro e w1 ⟨rfl, hb1⟩; have hc1 := hb1.cells; have hz1 := lt_of_alloc hb1; have hbw := ((Bl.refl w).alloc _).trans hb1)
          go_ret
          exact ⟨ret_bool g.out, by first | exact hbw | exact (Bl.refl _).alloc _⟩
        · have h2' : ((x.got.length : Int) == 0) = false := beq_eq_false_iff_ne.2 (by omega)
          have g := hide (show false = entryMay x by rw [hmay]; simp [h2])
          clear hmay h1 h2
          go_enter Tryz.func187, Tryz.ntmps187
          go_wp2_with (go_at_call 134; refine (hm5.out _).mono ?_; rintro e w1 ⟨rfl, hb1⟩; have hc1 := hb1.cells; have hz1 := lt_of_alloc hb1; have hbw := ((Bl.refl w).alloc _).trans hb1)
          go_ret
          exact ⟨ret_bool g.out, by first | exact hbw | exact (Bl.refl _).alloc _⟩
      · have h1' : ((x.snap.length : Int) == 0) = false := beq_eq_false_iff_ne.2 (by omega)
        have g := hide (show false = entryMay x by rw [hmay]; simp [h1])
        clear hmay h1
        go_enter Tryz.func187, Tryz.ntmps187
        go_wp2_with (go_at_call 134; refine (hm5.out _).mono ?_; rintro e w1 ⟨rfl, hb1⟩; have hc1 := hb1.cells; have hz1 := lt_of_alloc hb1; have hbw := ((Bl.refl w).alloc _).trans hb1)
        go_ret
        exact ⟨ret_bool g.out, by first | exact hbw | exact (Bl.refl _).alloc _⟩
    have ht : entryTail x = (!x.ready && clockMay x.snap && decide (clockMany x.snap ≤ 1024) && decide ((x.got.length : Int) = (clockMany x.snap + 7) / 8)) := by unfold entryTail; rw [hk]; rfl
    rw [ht] at hmay
    clear ht
    cases hr : x.ready
    rotate_left
    · have g := hide (show false = entryMay x by rw [hmay, hr]; rfl)
      clear hmay
      go_enter Tryz.func187, Tryz.ntmps187
      go_wp2_with (go_at_call 134; refine (hm5.out _).mono ?_; rintro e w1 ⟨rfl, hb1⟩; have hc1 := hb1.cells; have hz1 := lt_of_alloc hb1; have hbw := ((Bl.refl w).alloc _).trans hb1)
      go_ret
      exact ⟨ret_bool g.out, by first | exact hbw | exact (Bl.refl _).alloc _⟩
    have h8 := fun W (hb : Bl w W) => refMay08 A c x.snap W hl (hA.bl hb)
    cases hm8 : clockMay x.snap
    · have g := hide (show false = entryMay x by rw [hmay, hr, hm8]; rfl)
      rw [hm8] at h8
      replace h8 := hide h8
      clear hmay
      go_enter Tryz.func187, Tryz.ntmps187
      go_wp2_with (first
        | (go_at_call 134; refine (hm5.out _).mono ?_; rintro e w1 ⟨rfl, hb1⟩; have hc1 := hb1.cells; have hz1 := lt_of_alloc hb1; have hbw := ((Bl.refl w).alloc _).trans hb1)
        | (go_at_call 213; refine (h8.out _ (by first | exact hbw | exact (Bl.refl _).alloc _)).mono ?_; rintro e w2 ⟨rfl, hb2⟩))
      go_ret
      exact ⟨ret_bool g.out, by first | exact hbw.trans hb2 | exact ((Bl.refl _).alloc _).trans hb2⟩
    have hmy := fun W (hb : Bl w W) => refMany08 A c x.snap W hm8 (hA.bl hb)
    have hn := clockMany_le x.snap (clockFrom_all _ (show clockFrom (-1) x.snap = true from hm8))
    have hn8 := clockMay_length hm8
    rw [hr, hm8] at hmay
    rw [hm8] at h8
    replace h8 := hide h8
    generalize clockMany x.snap = N at *
    obtain ⟨hn0, hn1⟩ := hn
    have hN : N ≤ 8796093022208 := by omega
    replace hmy := hide hmy
    have hch := hide (fun W => refChunks19 N W hn0)
    clear hn1
    go_enter Tryz.func187, Tryz.ntmps187
    go_wp2_with (first
      | (go_at_call 134; refine (hm5.out _).mono ?_; rintro e w1 ⟨rfl, hb1⟩; have hc1 := hb1.cells; have hz1 := lt_of_alloc hb1; have hbw := ((Bl.refl w).alloc _).trans hb1)
      | (go_at_call 213; refine (h8.out _ (by first | exact hbw | exact (Bl.refl _).alloc _)).mono ?_; rintro e w2 ⟨rfl, hb2⟩; have hc2 := hb2.cells; have hbx : Bl w w2 := (by first | exact hbw.trans hb2 | exact ((Bl.refl _).alloc _).trans hb2); have hA2 : Bl (w.alloc _) w2 := (by first | exact hb1.trans hb2 | exact hb2))
      | (go_at_call 214; refine (hmy.out _ hbx).mono ?_; rintro e w3 ⟨rfl, hb3⟩; have hc3 := hb3.cells; have hby := hbx.trans hb3))
    have hA3 := hA2.trans hb3
    have hc7 : w3.cell? ⟨w.heap.size, 7, none⟩ = some (.slice B x.got.length d) := (hA3.cell (by rw [World.size_alloc]; omega)).trans (by simp)
    have hz3 := lt_of_alloc hA3
    have C7 := fun p : Wd w3 => Wd.cell hc7 hz3 p
    clear hA2 hA3 hc7 hc3
    by_cases hb : N ≤ 1024
    · have hb' : decide (N ≤ 1024) = true := by simpa using hb
      by_cases hq : (x.got.length : Int) = (N + 7) / 8
      · have g := hide (show true = entryMay x by rw [hmay, decide_eq_true hb, decide_eq_true hq]; rfl)
        have hq' : ((x.got.length : Int) == (N + 7) / 8) = true := by simp [hq]
        clear hmay hq
        (refine wp_region_wd (by kernel_rfl) (by kernel_rfl) ?_
         repeat (go_big_quiet_step ((go_at_call 215; exact Calls.wd (hch.out _ (by omega)))))
         refine wpQuiet_nil ?_
         intro w4 hw'
         obtain ⟨⟨wx, hb4⟩, hw''⟩ := hw'
         subst hw'')
        go_wp2
        go_ret
        exact ⟨ret_bool g.out, hby.trans hb4⟩
      · have g := hide (show false = entryMay x by rw [hmay, decide_eq_true hb, decide_eq_false hq]; rfl)
        have hq' : ((x.got.length : Int) == (N + 7) / 8) = false := beq_eq_false_iff_ne.2 hq
        clear hmay hq
        (refine wp_region_wd (by kernel_rfl) (by kernel_rfl) ?_
         repeat (go_big_quiet_step ((go_at_call 215; exact Calls.wd (hch.out _ (by omega)))))
         refine wpQuiet_nil ?_
         intro w4 hw'
         obtain ⟨⟨wx, hb4⟩, hw''⟩ := hw'
         subst hw'')
        go_wp2
        go_ret
        exact ⟨ret_bool g.out, hby.trans hb4⟩
    · have hb' : decide (N ≤ 1024) = false := by simpa using hb
      have g := hide (show false = entryMay x by rw [hmay, hb']; rfl)
      clear hmay hb
      (refine wp_region_wd (by kernel_rfl) (by kernel_rfl) ?_
       repeat (go_big_quiet_step ((go_at_call 215; exact Calls.wd (hch.out _ (by omega)))))
       refine wpQuiet_nil ?_
       intro w4 hw'
       obtain ⟨⟨wx, hb4⟩, hw''⟩ := hw'
       subst hw'')
      go_wp2
      go_ret
      exact ⟨ret_bool g.out, hby.trans hb4⟩

end Go.Proofs.YteoodmilcpmmpaaGreat

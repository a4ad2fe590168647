/-
  The walks of the references of layer 6 that BagTells reaches.
  The walks of the references of layers 4, 6, 9 and 10 that BagTells reaches.
-/
import Derived.Test.YteoodmilcpmmpaaGreatOp3B
import Derived.Test.YteoodmilcpmmpaaGreatBagB
namespace Go.Proofs.YteoodmilcpmmpaaGreat

open Go.RowKit

set_option maxHeartbeats 400000 in
theorem refEnd06 (x : Run) (w : World) (h0 : 0 ≤ x.t) (h1 : x.t ≤ 4294967295) (h2 : 1 ≤ x.m) (h3 : x.m ≤ 4096) :
    Calls Tryz.prog 102 #[.agg #[.int .u32 x.t, .int .u8 x.r, .int .i64 x.m]] w fun e w' => e = .returned (.int .i64 (x.t + x.m - 1)) ∧ Bl w w' := by
  go_enter Tryz.func102, Tryz.ntmps102
  go_wp2
  go_ret
  exact ⟨rfl, (Bl.refl _).alloc _⟩

set_option maxHeartbeats 1000000 in
theorem refOne06 (x : Run) (w : World) (hx : x.ok) :
    Calls Tryz.prog 101 #[.agg #[.int .u32 x.t, .int .u8 x.r, .int .i64 x.m]] w fun e w' => e = .returned (.bool (runOne x)) ∧ Bl w w' := by
  obtain ⟨o0, o1, o2, o3, o4, o5⟩ := hx
  have hb0 : ∀ o, Bl w (w.alloc o) := fun _ => (Bl.refl _).alloc _
  obtain ⟨T, hT⟩ : ∃ T, T = runOne x := ⟨_, rfl⟩
  rw [← hT]
  by_cases hc : 1 ≤ x.t ∧ x.t ≤ 1073741824 ∧ x.r < 8 ∧ 1 ≤ x.m ∧ x.m ≤ 4096
  · obtain ⟨a1, a2, a3, a4, a5⟩ := hc
    have he := hide (fun W => refEnd06 x W o0 (by omega) a4 a5)
    by_cases h6 : x.t + x.m - 1 ≤ 1073741824
    · have g := hide (show true = T by rw [hT, eq_comm]; unfold runOne idMay; simp; omega)
      clear hT
      go_enter Tryz.func101, Tryz.ntmps101
      go_wp2_with fail
      refine (he.out _).mono ?_
      rintro e w1 ⟨rfl, hb1⟩
      go_wp2_with fail
      go_ret
      exact ⟨ret_bool g.out, (hb0 _).trans hb1⟩
    · have g := hide (show false = T by rw [hT, eq_comm]; unfold runOne idMay; simp; omega)
      have h6' : 1073741824 < x.t + x.m - 1 := by omega
      clear hT h6
      go_enter Tryz.func101, Tryz.ntmps101
      go_wp2_with fail
      refine (he.out _).mono ?_
      rintro e w1 ⟨rfl, hb1⟩
      go_wp2_with fail
      go_ret
      exact ⟨ret_bool (by rw [← g.out]; exact decide_eq_false (by omega)), (hb0 _).trans hb1⟩
  · have g := hide (show false = T by rw [hT, eq_comm]; unfold runOne idMay; simp; omega)
    clear hT
    rcases (show x.t < 1 ∨ (1 ≤ x.t ∧ 1073741824 < x.t) ∨ (1 ≤ x.t ∧ x.t ≤ 1073741824 ∧ 8 ≤ x.r) ∨ (1 ≤ x.t ∧ x.t ≤ 1073741824 ∧ x.r < 8 ∧ x.m < 1) ∨ (1 ≤ x.t ∧ x.t ≤ 1073741824 ∧ x.r < 8 ∧ 1 ≤ x.m ∧ 4096 < x.m) by omega) with h | ⟨h, h'⟩ | ⟨h, h', h''⟩ | ⟨h, h', h'', h3⟩ | ⟨h, h', h'', h3, h4⟩
    all_goals
      clear hc
      go_enter Tryz.func101, Tryz.ntmps101
      go_wp2
      go_ret
      exact ⟨ret_bool g.out, hb0 _⟩

set_option maxHeartbeats 1000000 in
theorem refLong06 (A : Option Addr) (c : Nat) (p : List Run) (w : World) (hl : p.length ≤ 64) (hm : ∀ x ∈ p, 1 ≤ x.m ∧ x.m ≤ 4096) (hA : R cRun 0 w A p) :
    Calls Tryz.prog 103 #[.slice A p.length c] w fun e w' => e = .returned (.int .i64 (runsDeep p)) ∧ Bl w w' := by
  replace hm := hide hm
  go_enter Tryz.func103, Tryz.ntmps103
  go_wp2
  go_loopw [3, 4] (fun s i wr => Bl w wr ∧ ∃ (k : Nat) (S : Int), k ≤ p.length ∧ i = .int .i64 k ∧ s = .int .i64 S ∧ 0 ≤ S ∧ S ≤ 4096 * k ∧ Hid (runsDeep p = S + runsDeep (p.drop k))) (fun _ i _ => p.length - (intOf i).toNat)
  case atStart => exact ⟨Bl.refl _, 0, 0, Nat.zero_le _, rfl, rfl, by omega, by omega, by simp [Hid]⟩
  case round =>
    obtain ⟨hbl, k, S, hk, rfl, rfl, hS0, hS1, hd⟩ := hrel
    by_cases hlt : k < p.length
    · have hR := hA.bl hbl
      obtain ⟨b, off, rfl, _, hb⟩ := hR.addr (by omega)
      obtain ⟨x, hx⟩ := get_lt hlt
      obtain ⟨_, ⟨o0, o1, o2, o3, o4, o5⟩, c0, c1, c2⟩ := hR.run hx
      obtain ⟨m0, m1⟩ := hm.out x (List.mem_of_getElem? hx)
      have hdr := drop_cons hx
      have g := hide (show runsDeep p = S + x.m + runsDeep (p.drop (k + 1)) by rw [hd.out, hdr, runsDeep]; omega)
      have hki : (k : Int) < (p.length : Int) := by omega
      clear hdr hd hx
      go_wp2
      go_roundw
      case rel => exact ⟨hbl, k + 1, S + x.m, by omega, by go_num, rfl, by omega, by push_cast; omega, g.out⟩
      case measure => simp [intOf]; omega
    · have hkl : p.length ≤ k := by omega
      have g := hide (show runsDeep p = S by rw [hd.out, List.drop_eq_nil_of_le hkl]; simp [runsDeep])
      clear hd
      go_wp2
      go_ret
      exact ⟨ret_int g.out.symm, hbl⟩

set_option maxRecDepth 100000 in
set_option maxHeartbeats 2000000 in
theorem refMay06 (A : Option Addr) (c : Nat) (p : List Run) (w : World) (hl : p.length ≤ maxLen) (hA : R cRun 0 w A p) :
    Calls Tryz.prog 45 #[.slice A p.length c] w fun e w' => e = .returned (.bool (placeMay p)) ∧ Bl w w' := by
  unfold maxLen at hl
  obtain ⟨N, hN⟩ : ∃ N, N = placeMay p := ⟨_, rfl⟩
  rw [← hN]
  by_cases hn : p.length < 1
  · have e1 := hide (show false = N by rw [hN]; unfold placeMay; rw [decide_eq_false (show ¬ 1 ≤ p.length by omega)]; rfl)
    clear hN
    go_enter Tryz.func45, Tryz.ntmps45
    go_wp2
    go_ret
    exact ⟨ret_bool e1.out, Bl.refl _⟩
  by_cases hbig : 64 < p.length
  · have e1 := hide (show false = N by rw [hN]; unfold placeMay; rw [decide_eq_false (show ¬ p.length ≤ 64 by omega), Bool.and_false]; rfl)
    have hbig' : (64 : Int) < (p.length : Int) := by omega
    clear hN hn
    go_enter Tryz.func45, Tryz.ntmps45
    go_wp2
    go_ret
    exact ⟨ret_bool e1.out, Bl.refl _⟩
  have hbad := hide (show runsFrom 0 (-1) p = false → false = N from fun h => by rw [hN, placeMay_false h])
  have hgood := hide (show runsFrom 0 (-1) p = true → N = decide (runsDeep p ≤ 4096) from fun h => by rw [hN]; unfold placeMay; rw [h, decide_eq_true (show 1 ≤ p.length by omega), decide_eq_true (show p.length ≤ 64 by omega)]; rfl)
  clear hN
  have h1 : (1 : Int) ≤ (p.length : Int) := by omega
  have h64 : (p.length : Int) ≤ 64 := by omega
  go_enter Tryz.func45, Tryz.ntmps45
  go_wp2
  go_loopw [3] (fun i wr => Bl w wr ∧ ∃ (k : Nat) (wt wr' : Int), k ≤ p.length ∧ i = .int .i64 k ∧ (k = 0 ∧ wt = 0 ∧ wr' = -1 ∨ ∃ q : Run, 0 < k ∧ p[k - 1]? = some q ∧ wt = q.t + q.m - 1 ∧ wr' = q.r ∧ runOne q = true) ∧ Hid (runsFrom 0 (-1) p = runsFrom wt wr' (p.drop k))) (fun i _ => p.length - (intOf i).toNat)
  case atStart => exact ⟨Bl.refl _, 0, 0, -1, Nat.zero_le _, rfl, .inl ⟨rfl, rfl, rfl⟩, rfl⟩
  case round =>
    obtain ⟨hbl, k, wt, wr', hk, rfl, hprev, hf⟩ := hrel
    by_cases hlt : k < p.length
    · have hR := hA.bl hbl
      obtain ⟨b, off, rfl, _, hb⟩ := hR.addr (by omega)
      obtain ⟨x, hx⟩ := get_lt hlt
      obtain ⟨_, ho, c0, c1, c2⟩ := hR.run hx
      have hdr := hide (drop_cons hx)
      have hki : (k : Int) < (p.length : Int) := by omega
      have hone := refOne06 x wr ho
      have hno : (runOne x && runBehind wt wr' x) = false → false = N := fun h => hbad.out (runsFrom_bad hf.out hdr.out h)
      replace hno := hide hno
      cases hq : runOne x
      · rw [hq] at hone
        have g := hide (hno.out (by rw [hq]; rfl))
        replace hone := hide hone
        clear hq hno hdr hf hprev hx hbad hgood
        go_wp2_with fail
        refine hone.out.mono ?_
        rintro e w1 ⟨rfl, hb1⟩
        go_wp2_with fail
        go_ret
        exact ⟨ret_bool g.out, hbl.trans hb1⟩
      · rw [hq] at hone
        replace hone := hide hone
        have hgd := hide (fun h => runsFrom_good hf.out hdr.out hq h)
        have hrel : ∀ W, Bl w W → runBehind wt wr' x = true → Bl w W ∧ ∃ (k' : Nat) (wt2 wr2 : Int), k' ≤ p.length ∧ Value.int .i64 ((k : Int) + 1) = .int .i64 k' ∧ (k' = 0 ∧ wt2 = 0 ∧ wr2 = -1 ∨ ∃ q : Run, 0 < k' ∧ p[k' - 1]? = some q ∧ wt2 = q.t + q.m - 1 ∧ wr2 = q.r ∧ runOne q = true) ∧ Hid (runsFrom 0 (-1) p = runsFrom wt2 wr2 (p.drop k')) := fun W hW hB =>
          ⟨hW, k + 1, x.t + x.m - 1, x.r, by omega, by go_num, .inr ⟨x, by omega, by rw [Nat.add_sub_cancel]; exact hx, rfl, rfl, hq⟩, hgd.out hB⟩
        replace hrel := hide hrel
        obtain ⟨o0, o1, o2, o3, o4, o5⟩ := ho
        rcases hprev with ⟨hk0, rfl, rfl⟩ | ⟨q, hk0, hqp, rfl, rfl, hqo⟩
        · have hbeh := hide (show runBehind 0 (-1) x = true by
            have := runOne_bd hq
            unfold runBehind
            rw [decide_eq_true (show 0 < x.t by omega), decide_eq_false (show ¬ x.r = -1 by omega)]; rfl)
          have hd0 : decide (0 < k) = false := by simp; omega
          clear hq hno hdr hf hx hbad hgood hgd hk0
          go_wp2_with fail
          refine hone.out.mono ?_
          rintro e w1 ⟨rfl, hb1⟩
          go_wp2_with fail
          (refine wp_region_wd (by kernel_rfl) (by kernel_rfl) ?_
           repeat (go_big_quiet_step ((fail)))
           refine wpQuiet_nil ?_
           intro w2 hw'
           obtain ⟨⟨wx, hb2⟩, hw''⟩ := hw'
           subst hw'')
          go_wp2_with fail
          go_roundw
          case rel => exact hrel.out _ ((hbl.trans hb1).trans hb2) hbeh.out
          case measure => simp [intOf]; omega
        · obtain ⟨_, ⟨p0, p1, p2, p3, p4, p5⟩, d0, d1, d2⟩ := hR.run hqp
          obtain ⟨q1, q2, q3, q4, q5, q6⟩ := runOne_bd hqo
          have hd0 : decide ((0 : Int) < (k : Int)) = true := by simp; omega
          obtain ⟨j, hj⟩ : ∃ j, j = k - 1 := ⟨_, rfl⟩
          rw [← hj] at d0 d1 d2
          have hkj : (k : Int) - 1 = (j : Int) := by omega
          have hjl : (j : Int) < (p.length : Int) := by omega
          have hjk : j < p.length := by omega
          clear hj
          have hkAx := hide (fun V (hV : Bl wr V) => (⟨(hV.cell hb).trans c0, (hV.cell hb).trans c1, (hV.cell hb).trans c2, (hV.cell hb).trans d0, (hV.cell hb).trans d1, (hV.cell hb).trans d2, Nat.lt_of_lt_of_le hb hV.size⟩ : V.cell? ⟨b, off + k * 3, none⟩ = some (.int .u32 x.t) ∧ V.cell? ⟨b, off + k * 3 + 1, none⟩ = some (.int .u8 x.r) ∧ V.cell? ⟨b, off + k * 3 + 2, none⟩ = some (.int .i64 x.m) ∧ V.cell? ⟨b, off + j * 3, none⟩ = some (.int .u32 q.t) ∧ V.cell? ⟨b, off + j * 3 + 1, none⟩ = some (.int .u8 q.r) ∧ V.cell? ⟨b, off + j * 3 + 2, none⟩ = some (.int .i64 q.m) ∧ b < V.heap.size))
          have hend := hide (fun V => refEnd06 q V p0 (by omega) q3 q4)
          by_cases hq1 : x.t ≤ q.t + q.m - 1
          · have g := hide (hno.out (by unfold runBehind; rw [decide_eq_false (show ¬ q.t + q.m - 1 < x.t by omega), Bool.false_and, Bool.and_false]))
            have hdq : decide (x.t ≤ q.t + q.m - 1) = true := by simpa using hq1
            clear hq hno hdr hf hx hbad hgood hgd hrel hq1 d0 d1 d2
            go_wp2_with fail
            refine hone.out.mono ?_
            rintro e w1 ⟨rfl, hb1⟩
            obtain ⟨c0', c1', c2', d0', d1', d2', hbl1⟩ := hkAx.out _ hb1
            have C0 := fun p : Wd w1 => Wd.cell c0' hbl1 p
            have C1 := fun p : Wd w1 => Wd.cell c1' hbl1 p
            have C2 := fun p : Wd w1 => Wd.cell c2' hbl1 p
            have D0 := fun p : Wd w1 => Wd.cell d0' hbl1 p
            have D1 := fun p : Wd w1 => Wd.cell d1' hbl1 p
            have D2 := fun p : Wd w1 => Wd.cell d2' hbl1 p
            clear c0' c1' c2' d0' d1' d2'
            go_wp2_with fail
            (refine wp_region_wd (by kernel_rfl) (by kernel_rfl) ?_
             repeat (go_big_quiet_step ((go_at_call 102; exact Calls.wd (hend.out _))))
             refine wpQuiet_nil ?_
             intro w2 hw'
             obtain ⟨⟨wx, hb2⟩, hw''⟩ := hw'
             subst hw'')
            go_wp2_with fail
            go_ret
            exact ⟨ret_bool g.out, (hbl.trans hb1).trans hb2⟩
          have hdq : decide (x.t ≤ q.t + q.m - 1) = false := by simpa using hq1
          by_cases hq2 : x.r = q.r
          · have hdr2 : (x.r == q.r) = true := by simp [hq2]
            by_cases hq3' : x.t = q.t + q.m - 1 + 1
            · have g := hide (hno.out (by unfold runBehind; rw [decide_eq_true hq2, decide_eq_true hq3']; simp))
              have hdt : (x.t == q.t + q.m - 1 + 1) = true := by simpa using hq3'
              clear hq hno hdr hf hx hbad hgood hgd hrel hq1 hq2 hq3' d0 d1 d2
              go_wp2_with fail
              refine hone.out.mono ?_
              rintro e w1 ⟨rfl, hb1⟩
              obtain ⟨c0', c1', c2', d0', d1', d2', hbl1⟩ := hkAx.out _ hb1
              have C0 := fun p : Wd w1 => Wd.cell c0' hbl1 p
              have C1 := fun p : Wd w1 => Wd.cell c1' hbl1 p
              have C2 := fun p : Wd w1 => Wd.cell c2' hbl1 p
              have D0 := fun p : Wd w1 => Wd.cell d0' hbl1 p
              have D1 := fun p : Wd w1 => Wd.cell d1' hbl1 p
              have D2 := fun p : Wd w1 => Wd.cell d2' hbl1 p
              clear c0' c1' c2' d0' d1' d2'
              go_wp2_with fail
              (refine wp_region_wd (by kernel_rfl) (by kernel_rfl) ?_
               repeat (go_big_quiet_step ((go_at_call 102; exact Calls.wd (hend.out _))))
               refine wpQuiet_nil ?_
               intro w2 hw'
               obtain ⟨⟨wx, hb2⟩, hw''⟩ := hw'
               subst hw'')
              go_wp2_with fail
              go_ret
              exact ⟨ret_bool g.out, (hbl.trans hb1).trans hb2⟩
            · have hbeh := hide (show runBehind (q.t + q.m - 1) q.r x = true by unfold runBehind; rw [decide_eq_true (show q.t + q.m - 1 < x.t by omega), decide_eq_false hq3']; simp)
              have hdt : (x.t == q.t + q.m - 1 + 1) = false := by simpa using hq3'
              clear hq hno hdr hf hx hbad hgood hgd hq1 hq2 hq3' d0 d1 d2
              go_wp2_with fail
              refine hone.out.mono ?_
              rintro e w1 ⟨rfl, hb1⟩
              obtain ⟨c0', c1', c2', d0', d1', d2', hbl1⟩ := hkAx.out _ hb1
              have C0 := fun p : Wd w1 => Wd.cell c0' hbl1 p
              have C1 := fun p : Wd w1 => Wd.cell c1' hbl1 p
              have C2 := fun p : Wd w1 => Wd.cell c2' hbl1 p
              have D0 := fun p : Wd w1 => Wd.cell d0' hbl1 p
              have D1 := fun p : Wd w1 => Wd.cell d1' hbl1 p
              have D2 := fun p : Wd w1 => Wd.cell d2' hbl1 p
              clear c0' c1' c2' d0' d1' d2'
              go_wp2_with fail
              (refine wp_region_wd (by kernel_rfl) (by kernel_rfl) ?_
               repeat (go_big_quiet_step ((go_at_call 102; exact Calls.wd (hend.out _))))
               refine wpQuiet_nil ?_
               intro w2 hw'
               obtain ⟨⟨wx, hb2⟩, hw''⟩ := hw'
               subst hw'')
              go_wp2_with fail
              go_roundw
              case rel => exact hrel.out _ ((hbl.trans hb1).trans hb2) hbeh.out
              case measure => simp [intOf]; omega
          · have hbeh := hide (show runBehind (q.t + q.m - 1) q.r x = true by unfold runBehind; rw [decide_eq_true (show q.t + q.m - 1 < x.t by omega), decide_eq_false hq2]; simp)
            have hdr2 : (x.r == q.r) = false := by simpa using hq2
            clear hq hno hdr hf hx hbad hgood hgd hq1 hq2 d0 d1 d2
            go_wp2_with fail
            refine hone.out.mono ?_
            rintro e w1 ⟨rfl, hb1⟩
            obtain ⟨c0', c1', c2', d0', d1', d2', hbl1⟩ := hkAx.out _ hb1
            have C0 := fun p : Wd w1 => Wd.cell c0' hbl1 p
            have C1 := fun p : Wd w1 => Wd.cell c1' hbl1 p
            have C2 := fun p : Wd w1 => Wd.cell c2' hbl1 p
            have D0 := fun p : Wd w1 => Wd.cell d0' hbl1 p
            have D1 := fun p : Wd w1 => Wd.cell d1' hbl1 p
            have D2 := fun p : Wd w1 => Wd.cell d2' hbl1 p
            clear c0' c1' c2' d0' d1' d2'
            go_wp2_with fail
            (refine wp_region_wd (by kernel_rfl) (by kernel_rfl) ?_
             repeat (go_big_quiet_step ((go_at_call 102; exact Calls.wd (hend.out _))))
             refine wpQuiet_nil ?_
             intro w2 hw'
             obtain ⟨⟨wx, hb2⟩, hw''⟩ := hw'
             subst hw'')
            go_wp2_with fail
            go_roundw
            case rel => exact hrel.out _ ((hbl.trans hb1).trans hb2) hbeh.out
            case measure => simp [intOf]; omega
    · have hkl : p.length ≤ k := by omega
      have hre : runsFrom 0 (-1) p = true := by rw [hf.out, List.drop_eq_nil_of_le hkl]; rfl
      have g := hide (hgood.out hre)
      have hlong := hide (refLong06 A c p wr (by omega) (fun x hx => by have := runOne_bd (runsFrom_all p _ _ hre x hx); omega) (hA.bl hbl))
      have hbd := runsDeep_bd p _ _ hre
      generalize runsDeep p = S at hlong g hbd
      clear hf hprev hbad hgood hre
      go_wp2_with fail
      refine hlong.out.mono ?_
      rintro e w1 ⟨rfl, hb1⟩
      go_wp2_with fail
      go_ret
      exact ⟨ret_bool g.out.symm, hbl.trans hb1⟩

end Go.Proofs.YteoodmilcpmmpaaGreat

namespace Go.Proofs.YteoodmilcpmmpaaGreat

open Go.RowKit

set_option maxHeartbeats 1000000 in
theorem refFinal06 (A : Option Addr) (c : Nat) (p : List Run) (w : World) (hm : placeMay p = true) (hA : R cRun 0 w A p) :
    Calls Tryz.prog 135 #[.slice A p.length c] w fun e w' => e = .returned (.agg #[.int .u32 (placeFin p).t, .int .u8 (placeFin p).r]) ∧ Bl w w' := by
  obtain ⟨x, hx, hfx, hx0, hx1, hx2, hx3⟩ := placeFin_of hm
  have hn : 1 ≤ p.length := by have := (List.getElem?_eq_some_iff.1 hx).1; omega
  have hn64 := (placeMay_parts hm).2.1
  obtain ⟨b, off, rfl, _, hb⟩ := hA.addr (by omega)
  obtain ⟨_, ⟨o0, o1, o2, o3, o4, o5⟩, c0, c1, c2⟩ := hA.run hx
  have hnn : ((p.length : Int) - 1) = ((p.length - 1 : Nat) : Int) := by omega
  obtain ⟨n, hnl⟩ : ∃ n, n = p.length - 1 := ⟨_, rfl⟩
  rw [← hnl] at hnn hx c0 c1 c2
  have hni : n < p.length := by omega
  have hni2 : (n : Int) < (p.length : Int) := by omega
  have g := hide hfx
  have hb0 : ∀ o q, Bl w ((w.alloc o).alloc q) := fun _ _ => ((Bl.refl _).alloc _).alloc _
  clear hm hfx hx hnl
  go_enter Tryz.func135, Tryz.ntmps135
  go_wp2
  refine bodyPost_ret (v := .agg #[.int .u32 (x.t + x.m - 1), .int .u8 x.r]) (by simp [results, Tryz.results135, go_sem]; try omega) rfl ?_
  rw [g.out]
  exact ⟨rfl, hb0 _ _⟩

set_option maxHeartbeats 400000 in
theorem refIs04 (n : Int) (w : World) :
    Calls Tryz.prog 137 #[.int .i64 n] w fun e w' => e = .returned (.bool (pointIs n)) ∧ Bl w w' := by
  go_enter Tryz.func137, Tryz.ntmps137
  go_wp2
  all_goals
    go_ret
    exact ⟨ret_bool (by simp_all [pointIs] <;> omega), Bl.refl _⟩

set_option maxHeartbeats 400000 in
theorem refOwn09 (x : Op) (A : Option Addr) (c : Nat) (w : World) :
    Calls Tryz.prog 136 #[.agg #[.int .u8 x.kind, .int .u32 x.id.t, .int .u8 x.id.r, .slice A x.pl.length c, .int .i64 x.pt]] w fun e w' => e = .returned (.bool (decide (x.kind = 1) || decide (x.kind = 2))) ∧ Bl w w' := by
  have hb0 : ∀ o, Bl w (w.alloc o) := fun _ => (Bl.refl _).alloc _
  by_cases h1 : x.kind = 1
  · have e1 : (x.kind == 1) = true := by simp [h1]
    have g := hide (show true = (decide (x.kind = 1) || decide (x.kind = 2)) by rw [decide_eq_true h1]; rfl)
    clear h1
    go_enter Tryz.func136, Tryz.ntmps136
    go_wp2
    go_ret
    exact ⟨ret_bool g.out, hb0 _⟩
  · have e1 : (x.kind == 1) = false := by simp [h1]
    have e2 : (x.kind == 2) = decide (x.kind = 2) := by by_cases h : x.kind = 2 <;> simp [h]
    have g := hide (show decide (x.kind = 2) = (decide (x.kind = 1) || decide (x.kind = 2)) by rw [decide_eq_false h1]; rfl)
    generalize decide (x.kind = 2) = d at e2 g
    clear h1
    go_enter Tryz.func136, Tryz.ntmps136
    go_wp2
    go_ret
    exact ⟨ret_bool g.out, hb0 _⟩

set_option maxHeartbeats 400000 in
theorem refTwin06 (A : Option Addr) (c : Nat) (l : List Run) (w : World) (hl : l.length ≤ 8796093022208) (hA : R cRun 0 w A l) :
    Calls Tryz.prog 39 #[.slice A l.length c] w (New cRun l w) := by
  obtain ⟨i0, hi, hz0, hz1, hz2⟩ := info_parts Tryz.infoRun
  go_enter Tryz.func39, Tryz.ntmps39
  go_wp2_with (at_builtin
               refine wpList_append_any2 (C := cRun) (xs := []) (ys := l) rfl (.tmp 4) (.tmp 5) _ rfl 40 i0 _ 16 Tryz.underlying26 hi hz0 hz1 hz2 rfl (.slice none 0 0) w.heap.size rfl Own.nil A l.length c rfl rfl (hA.source flatRun) ?c1 ?c2 ?c3 ?_
               case c1 => simp only [List.length_nil, maxLen]; omega
               case c2 => simp only [List.length_nil]; omega
               case c3 => exact Nat.le_refl _
               intro v1 w1 hown hg _)
  go_ret
  have hbl := (Bl.refl w).grown hg
  simp only [List.nil_append] at hown
  obtain ⟨A', c', rfl, hr, h1, h2⟩ := hown.reads
  exact ⟨A', c', rfl, h1, h2, hr, hbl⟩

set_option maxRecDepth 100000 in
set_option maxHeartbeats 2000000 in
theorem refTwin09 (x : Op) (A : Option Addr) (c : Nat) (w : World) (hx : OpIn w x A c) (hs : x.pl.length ≤ 8796093022208) :
    Calls Tryz.prog 92 #[.agg #[.int .u8 x.kind, .int .u32 x.id.t, .int .u8 x.id.r, .slice A x.pl.length c, .int .i64 x.pt]] w (NewOp x w) := by
  obtain ⟨W, hW⟩ : ∃ W, W = (w.alloc (.cells #[Value.int IntKind.u8 x.kind, Value.int IntKind.u32 x.id.t, Value.int IntKind.u8 x.id.r, Value.slice A x.pl.length c, Value.int IntKind.i64 x.pt] 47)).alloc (.cells #[Value.int IntKind.u8 0, Value.int IntKind.u32 0, Value.int IntKind.u8 0, Value.slice none 0 0, Value.int IntKind.i64 0] 47) := ⟨_, rfl⟩
  have hbW : Bl w W := by rw [hW]; exact ((Bl.refl _).alloc _).alloc _
  have at0 : OpBox W w.heap.size x A c := by rw [hW]; exact (OpBox.new w x A c _).bl ((Bl.refl _).alloc _)
  have at1 : OpBox W (w.heap.size + 1) ⟨0, ⟨0, 0⟩, [], 0⟩ none 0 := by
    rw [hW]
    have := OpBox.new (w.alloc (.cells #[Value.int IntKind.u8 x.kind, Value.int IntKind.u32 x.id.t, Value.int IntKind.u8 x.id.r, Value.slice A x.pl.length c, Value.int IntKind.i64 x.pt] 47)) ⟨0, ⟨0, 0⟩, [], 0⟩ none 0 47
    rw [World.size_alloc] at this
    exact this
  have hplt := hide (refTwin06 A c x.pl W hs (hx.hR.bl hbW))
  obtain ⟨c0, c1, c2, c3, c4⟩ := at0.cells
  have hl0 := at0.lt
  go_enter Tryz.func92, Tryz.ntmps92
  go_wp2_with fail
  rw [← hW]
  clear hW
  go_wp2_with fail
  refine hplt.out.mono ?_
  rintro e w1 ⟨A1, n1, rfl, h1, h2, hr1, hb1⟩
  clear c0 c1 c2 c3 c4 hl0
  obtain ⟨c0, c1, c2, c3, c4⟩ := (at0.bl hb1).cells
  obtain ⟨f0, f1, f2, f3, f4⟩ := (at0.bl hb1).frozens
  obtain ⟨d0, d1, d2, d3, d4⟩ := (at1.bl hb1).cells
  obtain ⟨g0, g1, g2, g3, g4⟩ := (at1.bl hb1).frozens
  have hl0 := (at0.bl hb1).lt
  have hl1 := (at1.bl hb1).lt
  go_wp2_with fail
  refine bodyPost_ret (v := .agg #[.int .u8 x.kind, .int .u32 x.id.t, .int .u8 x.id.r, .slice A1 x.pl.length n1, .int .i64 x.pt]) (by simp [results, Tryz.results92, go_sem, d0, d1, d2, d3, d4]) rfl ?_
  refine ⟨A1, n1, rfl, h1, h2, ?_, ?_⟩
  · refine R.more (lo := W.heap.size) ?_ hbW.size
    have hlw0 := at0.lt
    have hlw1 := at1.lt
    repeat (refine R.set ?_ (by first | exact hlw0 | exact hlw1) _)
    exact hr1
  · have hb := hbW.trans hb1
    repeat (refine Bl.setCell ?_ (by simp) _)
    exact hb

set_option maxRecDepth 100000 in
set_option maxHeartbeats 2000000 in
theorem refMay09 (x : Op) (A : Option Addr) (c : Nat) (w : World) (hx : OpIn w x A c) :
    Calls Tryz.prog 82 #[.agg #[.int .u8 x.kind, .int .u32 x.id.t, .int .u8 x.id.r, .slice A x.pl.length c, .int .i64 x.pt]] w fun e w' => e = .returned (.bool (opMay x)) ∧ Bl w w' := by
  obtain ⟨N, hN⟩ : ∃ N, N = opMay x := ⟨_, rfl⟩
  rw [← hN]
  obtain ⟨W, hW⟩ : ∃ W, W = w.alloc (.cells #[Value.int IntKind.u8 x.kind, Value.int IntKind.u32 x.id.t, Value.int IntKind.u8 x.id.r, Value.slice A x.pl.length c, Value.int IntKind.i64 x.pt] 47) := ⟨_, rfl⟩
  have hbW : Bl w W := by rw [hW]; exact (Bl.refl _).alloc _
  have hb0 : ∀ o, Bl w (w.alloc o) := fun _ => (Bl.refl _).alloc _
  have hat : OpBox W w.heap.size x A c := by rw [hW]; exact OpBox.new w x A c _
  have kA := hide (fun V (hV : Bl W V) => And.intro (hat.bl hV).cells (hat.bl hV).lt)
  have h5 := fun V => refMay05 x.id V
  have h6 := fun V (hb : Bl W V) => refMay06 A c x.pl V hx.small (hx.hR.bl (hbW.trans hb))
  have hinW := hide (fun V (hb : Bl W V) => hx.bl (hbW.trans hb))
  by_cases hk1 : x.kind < 1
  · have g := hide (show false = N by rw [hN, opMay_kind (.inl hk1)])
    clear hN kA h5 h6 hinW hat hW
    go_enter Tryz.func82, Tryz.ntmps82
    go_wp2
    go_ret
    exact ⟨ret_bool g.out, hb0 _⟩
  by_cases hk4 : 4 < x.kind
  · have g := hide (show false = N by rw [hN, opMay_kind (.inr hk4)])
    have hk1' : 1 ≤ x.kind := by omega
    clear hN kA h5 h6 hinW hat hW hk1
    go_enter Tryz.func82, Tryz.ntmps82
    go_wp2
    go_ret
    exact ⟨ret_bool g.out, hb0 _⟩
  rw [opMay_in (by omega) (by omega)] at hN
  have hk1' : 1 ≤ x.kind := by omega
  have hk4' : x.kind ≤ 4 := by omega
  clear hk1 hk4
  cases hi : idMay x.id
  · rw [hi] at hN h5
    have g := hide (show false = N from hN.symm ▸ rfl)
    replace h5 := hide h5
    clear hN hi hat
    go_enter Tryz.func82, Tryz.ntmps82
    go_wp2_with fail
    rw [← hW]
    clear hW
    refine (h5.out _).mono ?_
    rintro e w1 ⟨rfl, hb1⟩
    go_wp2_with fail
    go_ret
    exact ⟨ret_bool g.out, hbW.trans hb1⟩
  rw [hi] at hN h5
  replace h5 := hide h5
  clear hi
  cases hp : placeMay x.pl
  · rw [hp] at hN h6
    have g := hide (show false = N from hN.symm ▸ rfl)
    replace h6 := hide h6
    clear hN hp hat
    go_enter Tryz.func82, Tryz.ntmps82
    go_wp2_with fail
    rw [← hW]
    clear hW
    refine (h5.out _).mono ?_
    rintro e w1 ⟨rfl, hb1⟩
    obtain ⟨⟨c0, c1, c2, c3, c4⟩, c5⟩ := kA.out _ hb1
    go_wp2_with fail
    refine (h6.out _ hb1).mono ?_
    rintro e w2 ⟨rfl, hb2⟩
    go_wp2_with fail
    go_ret
    exact ⟨ret_bool g.out, hbW.trans (hb1.trans hb2)⟩
  rw [hp] at hN h6
  have hfin := hide (fun V (hb : Bl W V) => refFinal06 A c x.pl V hp (hx.hR.bl (hbW.trans hb)))
  replace h6 := hide h6
  have hN' : N = opTail x := hN
  clear hN hp hat
  have hown := fun V => refOwn09 x A c V
  have hneq := run_neqId (placeFin x.pl) x.id
  have h4 := fun V => refIs04 x.pt V
  by_cases ho : x.kind = 1 ∨ x.kind = 2
  · have hob : (decide (x.kind = 1) || decide (x.kind = 2)) = true := by rcases ho with h | h <;> simp [h]
    rw [hob] at hown
    replace hown := hide hown
    cases hq : neqId (placeFin x.pl) x.id
    rotate_left
    · rw [hq] at hneq
      have g := hide (show false = N by rw [hN']; unfold opTail; rw [hq]; rcases ho with h | h <;> simp [h])
      clear hN' hq ho hob h4
      go_enter Tryz.func82, Tryz.ntmps82
      go_wp2_with fail
      rw [← hW]
      clear hW
      refine (h5.out _).mono ?_
      rintro e w1 ⟨rfl, hb1⟩
      obtain ⟨⟨c0, c1, c2, c3, c4⟩, c5⟩ := kA.out _ hb1
      go_wp2_with fail
      refine (h6.out _ hb1).mono ?_
      rintro e w2 ⟨rfl, hb2⟩
      clear c0 c1 c2 c3 c4 c5
      obtain ⟨⟨c0, c1, c2, c3, c4⟩, c5⟩ := kA.out _ (hb1.trans hb2)
      go_wp2_with fail
      refine (hfin.out _ (hb1.trans hb2)).mono ?_
      rintro e w3 ⟨rfl, hb3⟩
      have hb13 := (hb1.trans hb2).trans hb3
      clear c0 c1 c2 c3 c4 c5
      have atl := IdBox.new w3 (placeFin x.pl) 25
      obtain ⟨⟨c0, c1, c2, c3, c4⟩, c5⟩ := kA.out _ (hb13.alloc (.cells #[Value.int IntKind.u32 (placeFin x.pl).t, Value.int IntKind.u8 (placeFin x.pl).r] 25))
      have c6 := (kA.out _ hb13).2
      have hnel : w.heap.size ≠ w3.heap.size := by omega
      go_wp2_with fail
      refine (hown.out _).mono ?_
      rintro e w4 ⟨rfl, hb4⟩
      have hb14 := (hb13.alloc (.cells #[Value.int IntKind.u32 (placeFin x.pl).t, Value.int IntKind.u8 (placeFin x.pl).r] 25)).trans hb4
      clear c0 c1 c2 c3 c4 c5
      obtain ⟨⟨c0, c1, c2, c3, c4⟩, c5⟩ := kA.out _ hb14
      obtain ⟨l0, l1, -, -⟩ := atl.bl hb4
      have l2 := (atl.bl hb4).lt
      go_wp2_with fail
      go_ret
      exact ⟨ret_bool g.out, hbW.trans hb14⟩
    · rw [hq] at hneq
      by_cases hk : x.kind = 1
      · have e1 : (x.kind == 1) = true := by simp [hk]
        have g := hide (show pointIs x.pt = N by rw [hN']; unfold opTail; rw [if_pos hk, hq]; rfl)
        generalize pointIs x.pt = T at h4 g
        replace h4 := hide h4
        clear hN' hq ho hob hk
        go_enter Tryz.func82, Tryz.ntmps82
        go_wp2_with fail
        rw [← hW]
        clear hW
        refine (h5.out _).mono ?_
        rintro e w1 ⟨rfl, hb1⟩
        obtain ⟨⟨c0, c1, c2, c3, c4⟩, c5⟩ := kA.out _ hb1
        go_wp2_with fail
        refine (h6.out _ hb1).mono ?_
        rintro e w2 ⟨rfl, hb2⟩
        clear c0 c1 c2 c3 c4 c5
        obtain ⟨⟨c0, c1, c2, c3, c4⟩, c5⟩ := kA.out _ (hb1.trans hb2)
        go_wp2_with fail
        refine (hfin.out _ (hb1.trans hb2)).mono ?_
        rintro e w3 ⟨rfl, hb3⟩
        have hb13 := (hb1.trans hb2).trans hb3
        clear c0 c1 c2 c3 c4 c5
        have atl := IdBox.new w3 (placeFin x.pl) 25
        obtain ⟨⟨c0, c1, c2, c3, c4⟩, c5⟩ := kA.out _ (hb13.alloc (.cells #[Value.int IntKind.u32 (placeFin x.pl).t, Value.int IntKind.u8 (placeFin x.pl).r] 25))
        have c6 := (kA.out _ hb13).2
        have hnel : w.heap.size ≠ w3.heap.size := by omega
        go_wp2_with fail
        refine (hown.out _).mono ?_
        rintro e w4 ⟨rfl, hb4⟩
        have hb14 := (hb13.alloc (.cells #[Value.int IntKind.u32 (placeFin x.pl).t, Value.int IntKind.u8 (placeFin x.pl).r] 25)).trans hb4
        clear c0 c1 c2 c3 c4 c5
        obtain ⟨⟨c0, c1, c2, c3, c4⟩, c5⟩ := kA.out _ hb14
        obtain ⟨l0, l1, -, -⟩ := atl.bl hb4
        have l2 := (atl.bl hb4).lt
        go_wp2_with fail
        refine (hown.out _).mono ?_
        rintro e w5 ⟨rfl, hb5⟩
        have hb15 := hb14.trans hb5
        clear c0 c1 c2 c3 c4 c5 l0 l1 l2
        obtain ⟨⟨c0, c1, c2, c3, c4⟩, c5⟩ := kA.out _ hb15
        obtain ⟨l0, l1, -, -⟩ := atl.bl (hb4.trans hb5)
        have l2 := (atl.bl (hb4.trans hb5)).lt
        go_wp2_with fail
        refine (h4.out _).mono ?_
        rintro e w6 ⟨rfl, hb6⟩
        go_wp2_with fail
        go_ret
        exact ⟨ret_bool g.out, hbW.trans (hb15.trans hb6)⟩
      · have hk2 : x.kind = 2 := by omega
        have e1 : (x.kind == 1) = false := by simp [hk]
        have e2 : (x.pt == 0) = decide (x.pt = 0) := by by_cases h : x.pt = 0 <;> simp [h]
        have g := hide (show decide (x.pt = 0) = N by rw [hN']; unfold opTail; rw [if_neg hk, if_pos hk2, hq]; rfl)
        generalize decide (x.pt = 0) = T at e2 g
        clear hN' hq ho hob hk hk2 h4
        go_enter Tryz.func82, Tryz.ntmps82
        go_wp2_with fail
        rw [← hW]
        clear hW
        refine (h5.out _).mono ?_
        rintro e w1 ⟨rfl, hb1⟩
        obtain ⟨⟨c0, c1, c2, c3, c4⟩, c5⟩ := kA.out _ hb1
        go_wp2_with fail
        refine (h6.out _ hb1).mono ?_
        rintro e w2 ⟨rfl, hb2⟩
        clear c0 c1 c2 c3 c4 c5
        obtain ⟨⟨c0, c1, c2, c3, c4⟩, c5⟩ := kA.out _ (hb1.trans hb2)
        go_wp2_with fail
        refine (hfin.out _ (hb1.trans hb2)).mono ?_
        rintro e w3 ⟨rfl, hb3⟩
        have hb13 := (hb1.trans hb2).trans hb3
        clear c0 c1 c2 c3 c4 c5
        have atl := IdBox.new w3 (placeFin x.pl) 25
        obtain ⟨⟨c0, c1, c2, c3, c4⟩, c5⟩ := kA.out _ (hb13.alloc (.cells #[Value.int IntKind.u32 (placeFin x.pl).t, Value.int IntKind.u8 (placeFin x.pl).r] 25))
        have c6 := (kA.out _ hb13).2
        have hnel : w.heap.size ≠ w3.heap.size := by omega
        go_wp2_with fail
        refine (hown.out _).mono ?_
        rintro e w4 ⟨rfl, hb4⟩
        have hb14 := (hb13.alloc (.cells #[Value.int IntKind.u32 (placeFin x.pl).t, Value.int IntKind.u8 (placeFin x.pl).r] 25)).trans hb4
        clear c0 c1 c2 c3 c4 c5
        obtain ⟨⟨c0, c1, c2, c3, c4⟩, c5⟩ := kA.out _ hb14
        obtain ⟨l0, l1, -, -⟩ := atl.bl hb4
        have l2 := (atl.bl hb4).lt
        go_wp2_with fail
        refine (hown.out _).mono ?_
        rintro e w5 ⟨rfl, hb5⟩
        have hb15 := hb14.trans hb5
        clear c0 c1 c2 c3 c4 c5 l0 l1 l2
        obtain ⟨⟨c0, c1, c2, c3, c4⟩, c5⟩ := kA.out _ hb15
        obtain ⟨l0, l1, -, -⟩ := atl.bl (hb4.trans hb5)
        have l2 := (atl.bl (hb4.trans hb5)).lt
        go_wp2_with fail
        go_ret
        exact ⟨ret_bool g.out, hbW.trans hb15⟩
  · have hob : (decide (x.kind = 1) || decide (x.kind = 2)) = false := by simp; omega
    rw [hob] at hown
    replace hown := hide hown
    have hk1 : ¬ x.kind = 1 := by omega
    have hk2 : ¬ x.kind = 2 := by omega
    have e1 : (x.kind == 1) = false := by simp [hk1]
    have htl : opTail x = (decide (x.pt = 0) && decide ((placeFin x.pl).t < x.id.t)) := by unfold opTail; rw [if_neg hk1, if_neg hk2]
    by_cases hle : x.id.t ≤ (placeFin x.pl).t
    · have g := hide (show false = N by rw [hN', htl, decide_eq_false (show ¬ (placeFin x.pl).t < x.id.t by omega), Bool.and_false])
      clear hN' ho hob hk1 hk2 htl h4 hneq
      go_enter Tryz.func82, Tryz.ntmps82
      go_wp2_with fail
      rw [← hW]
      clear hW
      refine (h5.out _).mono ?_
      rintro e w1 ⟨rfl, hb1⟩
      obtain ⟨⟨c0, c1, c2, c3, c4⟩, c5⟩ := kA.out _ hb1
      go_wp2_with fail
      refine (h6.out _ hb1).mono ?_
      rintro e w2 ⟨rfl, hb2⟩
      clear c0 c1 c2 c3 c4 c5
      obtain ⟨⟨c0, c1, c2, c3, c4⟩, c5⟩ := kA.out _ (hb1.trans hb2)
      go_wp2_with fail
      refine (hfin.out _ (hb1.trans hb2)).mono ?_
      rintro e w3 ⟨rfl, hb3⟩
      have hb13 := (hb1.trans hb2).trans hb3
      clear c0 c1 c2 c3 c4 c5
      have atl := IdBox.new w3 (placeFin x.pl) 25
      obtain ⟨⟨c0, c1, c2, c3, c4⟩, c5⟩ := kA.out _ (hb13.alloc (.cells #[Value.int IntKind.u32 (placeFin x.pl).t, Value.int IntKind.u8 (placeFin x.pl).r] 25))
      have c6 := (kA.out _ hb13).2
      have hnel : w.heap.size ≠ w3.heap.size := by omega
      go_wp2_with fail
      refine (hown.out _).mono ?_
      rintro e w4 ⟨rfl, hb4⟩
      have hb14 := (hb13.alloc (.cells #[Value.int IntKind.u32 (placeFin x.pl).t, Value.int IntKind.u8 (placeFin x.pl).r] 25)).trans hb4
      clear c0 c1 c2 c3 c4 c5
      obtain ⟨⟨c0, c1, c2, c3, c4⟩, c5⟩ := kA.out _ hb14
      obtain ⟨l0, l1, -, -⟩ := atl.bl hb4
      have l2 := (atl.bl hb4).lt
      go_wp2_with fail
      refine (hown.out _).mono ?_
      rintro e w5 ⟨rfl, hb5⟩
      have hb15 := hb14.trans hb5
      clear c0 c1 c2 c3 c4 c5 l0 l1 l2
      obtain ⟨⟨c0, c1, c2, c3, c4⟩, c5⟩ := kA.out _ hb15
      obtain ⟨l0, l1, -, -⟩ := atl.bl (hb4.trans hb5)
      have l2 := (atl.bl (hb4.trans hb5)).lt
      go_wp2_with fail
      go_ret
      exact ⟨ret_bool g.out, hbW.trans hb15⟩
    · have e2 : (x.pt == 0) = decide (x.pt = 0) := by by_cases h : x.pt = 0 <;> simp [h]
      have g := hide (show decide (x.pt = 0) = N by rw [hN', htl, decide_eq_true (show (placeFin x.pl).t < x.id.t by omega), Bool.and_true])
      generalize decide (x.pt = 0) = T at e2 g
      have hlt' : (placeFin x.pl).t < x.id.t := by omega
      clear hN' ho hob hk1 hk2 htl h4 hneq hle
      go_enter Tryz.func82, Tryz.ntmps82
      go_wp2_with fail
      rw [← hW]
      clear hW
      refine (h5.out _).mono ?_
      rintro e w1 ⟨rfl, hb1⟩
      obtain ⟨⟨c0, c1, c2, c3, c4⟩, c5⟩ := kA.out _ hb1
      go_wp2_with fail
      refine (h6.out _ hb1).mono ?_
      rintro e w2 ⟨rfl, hb2⟩
      clear c0 c1 c2 c3 c4 c5
      obtain ⟨⟨c0, c1, c2, c3, c4⟩, c5⟩ := kA.out _ (hb1.trans hb2)
      go_wp2_with fail
      refine (hfin.out _ (hb1.trans hb2)).mono ?_
      rintro e w3 ⟨rfl, hb3⟩
      have hb13 := (hb1.trans hb2).trans hb3
      clear c0 c1 c2 c3 c4 c5
      have atl := IdBox.new w3 (placeFin x.pl) 25
      obtain ⟨⟨c0, c1, c2, c3, c4⟩, c5⟩ := kA.out _ (hb13.alloc (.cells #[Value.int IntKind.u32 (placeFin x.pl).t, Value.int IntKind.u8 (placeFin x.pl).r] 25))
      have c6 := (kA.out _ hb13).2
      have hnel : w.heap.size ≠ w3.heap.size := by omega
      go_wp2_with fail
      refine (hown.out _).mono ?_
      rintro e w4 ⟨rfl, hb4⟩
      have hb14 := (hb13.alloc (.cells #[Value.int IntKind.u32 (placeFin x.pl).t, Value.int IntKind.u8 (placeFin x.pl).r] 25)).trans hb4
      clear c0 c1 c2 c3 c4 c5
      obtain ⟨⟨c0, c1, c2, c3, c4⟩, c5⟩ := kA.out _ hb14
      obtain ⟨l0, l1, -, -⟩ := atl.bl hb4
      have l2 := (atl.bl hb4).lt
      go_wp2_with fail
      refine (hown.out _).mono ?_
      rintro e w5 ⟨rfl, hb5⟩
      have hb15 := hb14.trans hb5
      clear c0 c1 c2 c3 c4 c5 l0 l1 l2
      obtain ⟨⟨c0, c1, c2, c3, c4⟩, c5⟩ := kA.out _ hb15
      obtain ⟨l0, l1, -, -⟩ := atl.bl (hb4.trans hb5)
      have l2 := (atl.bl (hb4.trans hb5)).lt
      go_wp2_with fail
      go_ret
      exact ⟨ret_bool g.out, hbW.trans hb15⟩

end Go.Proofs.YteoodmilcpmmpaaGreat

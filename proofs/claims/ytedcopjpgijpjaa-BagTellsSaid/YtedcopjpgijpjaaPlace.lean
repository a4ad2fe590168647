/-
  The walks of place.Check, Last, Same, Twin.
-/
import Derived.Test.YtedcopjpgijpjaaRun
namespace Go.Proofs.Ytedcopjpgijpjaa
open Go.RowKit

set_option maxRecDepth 100000 in
set_option maxHeartbeats 1000000 in
theorem placeCheck (A : Option Addr) (c : Nat) (p : List Run) (w : World) (hl : p.length ≤ maxLen) (hA : R cRun 0 w A p) :
    Calls Try.prog 68 #[.slice A p.length c] w fun e w' => e = .returned (.int .i64 (okOr 8 (placeMay p))) ∧ Bl w w' := by
  unfold maxLen at hl
  obtain ⟨N, hN⟩ : ∃ N, N = okOr 8 (placeMay p) := ⟨_, rfl⟩
  rw [← hN]
  by_cases hn : p.length < 1
  · have e1 := hide (show N = 8 by rw [hN]; unfold placeMay; rw [decide_eq_false (show ¬ 1 ≤ p.length by omega)]; rfl)
    clear hN
    go_enter Try.func68, Try.ntmps68
    go_wp2
    go_ret
    exact ⟨ret_int e1.out.symm, Bl.refl _⟩
  by_cases hbig : 64 < p.length
  · have e1 := hide (show N = 8 by rw [hN]; unfold placeMay; rw [decide_eq_false (show ¬ p.length ≤ 64 by omega), Bool.and_false]; rfl)
    clear hN hn
    have hbig' : (64 : Int) < (p.length : Int) := by omega
    go_enter Try.func68, Try.ntmps68
    go_wp2
    go_ret
    exact ⟨ret_int e1.out.symm, Bl.refl _⟩
  have hbad := hide (show runsFrom 0 (-1) p = false → 8 = N from fun h => by rw [hN, placeMay_false h]; rfl)
  have hgood := hide (show runsFrom 0 (-1) p = true → N = okOr 8 (decide (runsDeep p ≤ 4096)) from fun h => by rw [hN]; unfold placeMay; rw [h, decide_eq_true (show 1 ≤ p.length by omega), decide_eq_true (show p.length ≤ 64 by omega)]; rfl)
  clear hN
  have h1 : (1 : Int) ≤ (p.length : Int) := by omega
  have h64 : (p.length : Int) ≤ 64 := by omega
  go_enter Try.func68, Try.ntmps68
  go_wp2
  go_loopw [3, 17] (fun s i wr => Bl w wr ∧ ∃ (k : Nat) (wt wr' S : Int), k ≤ p.length ∧ i = .int .i64 k ∧ s = .int .i64 S ∧ 0 ≤ S ∧ S ≤ 4096 * k ∧ 0 ≤ wt ∧ wt ≤ 1073741824 ∧
    IdBox wr w.heap.size ⟨wt, if k = 0 then 0 else wr'⟩ ∧ (k = 0 → wt = 0 ∧ wr' = -1) ∧ Hid (runsFrom 0 (-1) p = runsFrom wt wr' (p.drop k)) ∧ Hid (runsDeep p = S + runsDeep (p.drop k))) (fun _ i _ => p.length - (intOf i).toNat)
  case atStart => exact ⟨(Bl.refl _).alloc _, 0, 0, -1, 0, Nat.zero_le _, rfl, rfl, by omega, by omega, by omega, by omega, IdBox.new w ⟨0, 0⟩ _, fun _ => ⟨rfl, rfl⟩, rfl, by simp [Hid]⟩
  case round =>
    obtain ⟨hbl, k, wt, wr', S, hk, rfl, rfl, hS0, hS1, hw0, hw1, hat, hz, hf, hd⟩ := hrel
    by_cases hlt : k < p.length
    · have hR := hA.bl hbl
      obtain ⟨b, off, rfl, _, hb⟩ := hR.addr (by omega)
      obtain ⟨x, hx⟩ := get_lt hlt
      obtain ⟨_, ⟨o0, o1, o2, o3, o4, o5⟩, c0, c1, c2⟩ := hR.run hx
      have hdr := hide (drop_cons hx)
      clear hx
      have hki : (k : Int) < (p.length : Int) := by omega
      have hno : (runOne x && runBehind wt wr' x) = false → 8 = N := fun h => hbad.out (runsFrom_bad hf.out hdr.out h)
      replace hno := hide hno
      by_cases hm1 : x.m < 1
      · have g := hide (hno.out (by unfold runOne; rw [decide_eq_false (show ¬ 1 ≤ x.m by omega)]; rfl))
        clear hf hd hz hgood hbad hdr hat hno
        go_wp2
        go_ret
        exact ⟨ret_int g.out, hbl.alloc _⟩
      by_cases hm2 : 4096 < x.m
      · have g := hide (hno.out (by unfold runOne; rw [decide_eq_false (show ¬ x.m ≤ 4096 by omega), Bool.and_false]; rfl))
        clear hf hd hz hgood hbad hdr hat hno
        go_wp2
        go_ret
        exact ⟨ret_int g.out, hbl.alloc _⟩
      have hm1' : 1 ≤ x.m := by omega
      have hm2' : x.m ≤ 4096 := by omega
      clear hm1 hm2
      have hone : runOne x = (idMay ⟨x.t, x.r⟩ && idMay ⟨x.t + x.m - 1, x.r⟩) := by unfold runOne; rw [decide_eq_true hm1', decide_eq_true hm2']; rfl
      have h1 := fun W => stampCheck ⟨x.t, x.r⟩ W
      have atx : ∀ V, Bl (wr.alloc (.cells #[Value.int IntKind.u32 x.t, Value.int IntKind.u8 x.r, Value.int IntKind.i64 x.m] 71)) V → V.cell? ⟨wr.heap.size, 0, none⟩ = some (.int .u32 x.t) ∧ V.cell? ⟨wr.heap.size, 1, none⟩ = some (.int .u8 x.r) ∧ V.cell? ⟨wr.heap.size, 2, none⟩ = some (.int .i64 x.m) ∧ wr.heap.size < V.heap.size := fun V hV => by
        have h := (At.new wr [Value.int IntKind.u32 x.t, Value.int IntKind.u8 x.r, Value.int IntKind.i64 x.m] 71).bl hV (by simp)
        exact ⟨(h 0 _ rfl).1, (h 1 _ rfl).1, (h 2 _ rfl).1, h.lt (by simp)⟩
      have hV0 : Bl wr (wr.alloc (.cells #[Value.int IntKind.u32 x.t, Value.int IntKind.u8 x.r, Value.int IntKind.i64 x.m] 71)) := (Bl.refl _).alloc _
      replace atx := hide atx
      cases hi1 : idMay ⟨x.t, x.r⟩
      · have g := hide (hno.out (by rw [hone, hi1]; rfl))
        rw [hi1, okOr_false] at h1
        replace h1 := hide h1
        clear hf hd hz hgood hbad hdr hat hno hone hi1
        go_wp2_with fail
        refine (placeFirst x _).mono ?_
        rintro e w1 ⟨rfl, hb1⟩
        go_wp2_with fail
        refine (h1.out _).mono ?_
        rintro e w2 ⟨rfl, hb2⟩
        go_wp2_with fail
        go_ret
        exact ⟨ret_int g.out, (hbl.trans hV0).trans (hb1.trans hb2)⟩
      have hx1 : 1 ≤ x.t ∧ x.t ≤ 1073741824 ∧ x.r < 8 := by
        have := hi1
        unfold idMay at this
        simp at this
        omega
      obtain ⟨t0, t1, t2⟩ := hx1
      have h2 := fun W => stampCheck ⟨x.t + x.m - 1, x.r⟩ W
      rw [hi1, okOr_true] at h1
      replace h1 := hide h1
      cases hi2 : idMay ⟨x.t + x.m - 1, x.r⟩
      · have g := hide (hno.out (by rw [hone, hi1, hi2]; rfl))
        rw [hi2, okOr_false] at h2
        replace h2 := hide h2
        clear hf hd hz hgood hbad hdr hat hno hone hi1 hi2
        go_wp2_with fail
        refine (placeFirst x _).mono ?_
        rintro e w1 ⟨rfl, hb1⟩
        go_wp2_with fail
        refine (h1.out _).mono ?_
        rintro e w2 ⟨rfl, hb2⟩
        have hb12 := hb1.trans hb2
        obtain ⟨x0, x1, x2, x3⟩ := atx.out _ hb12
        go_wp2_with fail
        refine (placeEnd x _ o0 t1 hm1' hm2').mono ?_
        rintro e w3 ⟨rfl, hb3⟩
        go_wp2_with fail
        refine (h2.out _).mono ?_
        rintro e w4 ⟨rfl, hb4⟩
        go_wp2_with fail
        go_ret
        exact ⟨ret_int g.out, (hbl.trans hV0).trans (hb12.trans (hb3.trans hb4))⟩
      have hx2 : x.t + x.m - 1 ≤ 1073741824 := by
        have := hi2
        unfold idMay at this
        simp at this
        omega
      rw [hi1, hi2] at hone
      rw [hi2, okOr_true] at h2
      replace h2 := hide h2
      replace hone := hide (show runOne x = true from hone)
      clear hi1 hi2
      -- behind the checks
      have hrel : ∀ (W : World), Bl w W → IdBox W w.heap.size ⟨x.t + x.m - 1, x.r⟩ → runBehind wt wr' x = true → Bl w W ∧ ∃ (k' : Nat) (wt' wr'' S' : Int), k' ≤ p.length ∧ Value.int .i64 ((k : Int) + 1) = .int .i64 k' ∧ Value.int .i64 (S + x.m) = .int .i64 S' ∧ 0 ≤ S' ∧ S' ≤ 4096 * k' ∧ 0 ≤ wt' ∧ wt' ≤ 1073741824 ∧
          IdBox W w.heap.size ⟨wt', if k' = 0 then 0 else wr''⟩ ∧ (k' = 0 → wt' = 0 ∧ wr'' = -1) ∧ Hid (runsFrom 0 (-1) p = runsFrom wt' wr'' (p.drop k')) ∧ Hid (runsDeep p = S' + runsDeep (p.drop k')) := fun W hW hI hB =>
        ⟨hW, k + 1, x.t + x.m - 1, x.r, S + x.m, by omega, by go_num, rfl, by omega, by push_cast; omega, by omega, hx2, by rw [if_neg (by omega)]; exact hI, fun h => by omega, runsFrom_good hf.out hdr.out hone.out hB, by rw [hd.out, hdr.out, runsDeep]; simp only [Hid]; omega⟩
      replace hrel := hide hrel
      by_cases hk0 : k = 0
      · have hbeh := hide (show runBehind wt wr' x = true by obtain ⟨rfl, rfl⟩ := hz hk0; unfold runBehind; rw [decide_eq_true (show 0 < x.t by omega), decide_eq_false (show ¬ x.r = -1 by omega)]; rfl)
        have hki0 : ¬ (0 : Int) < (k : Int) := by omega
        clear hz hf hd hgood hbad hdr hno hone hk0
        go_wp2_with fail
        refine (placeFirst x _).mono ?_
        rintro e w1 ⟨rfl, hb1⟩
        go_wp2_with fail
        refine (h1.out _).mono ?_
        rintro e w2 ⟨rfl, hb2⟩
        have hb12 := hb1.trans hb2
        obtain ⟨x0, x1, x2, x3⟩ := atx.out _ hb12
        go_wp2_with fail
        refine (placeEnd x _ o0 t1 hm1' hm2').mono ?_
        rintro e w3 ⟨rfl, hb3⟩
        clear x0 x1 x2 x3
        go_wp2_with fail
        refine (h2.out _).mono ?_
        rintro e w4 ⟨rfl, hb4⟩
        have hb14 := hb12.trans (hb3.trans hb4)
        obtain ⟨x0, x1, x2, x3⟩ := atx.out _ hb14
        have hbx := (hbl.trans hV0).trans hb14
        have hat4 := hat.bl (hV0.trans hb14)
        go_wp2_with fail
        refine (placeEnd x _ o0 t1 hm1' hm2').mono ?_
        rintro e w5 ⟨rfl, hb5⟩
        have hb15 := hb14.trans hb5
        clear x0 x1 x2 x3
        obtain ⟨x0, x1, x2, x3⟩ := atx.out _ hb15
        obtain ⟨y0, y1, f0, f1⟩ := hat4.bl hb5
        have hat5 := (hat4.bl hb5).set ⟨x.t + x.m - 1, x.r⟩
        have hl5 := (hat4.bl hb5).lt
        have hne1 : w.heap.size ≠ wr.heap.size := by have := hat.lt; omega
        have hne2 : wr.heap.size ≠ w.heap.size := by have := hat.lt; omega
        go_wp2_with fail
        go_roundw
        case rel => exact hrel.out _ (((hbx.trans hb5).setCell (Nat.le_refl _) _).setCell (Nat.le_refl _) _) hat5 hbeh.out
        case measure => simp [intOf]; omega
      · have hki0 : (0 : Int) < (k : Int) := by omega
        rw [if_neg hk0] at hat
        by_cases hq1 : x.t ≤ wt
        · have g := hide (hno.out (by unfold runBehind; rw [decide_eq_false (show ¬ wt < x.t by omega), Bool.false_and, Bool.and_false]))
          clear hz hf hd hgood hbad hdr hno hone hrel
          go_wp2_with fail
          refine (placeFirst x _).mono ?_
          rintro e w1 ⟨rfl, hb1⟩
          go_wp2_with fail
          refine (h1.out _).mono ?_
          rintro e w2 ⟨rfl, hb2⟩
          have hb12 := hb1.trans hb2
          obtain ⟨x0, x1, x2, x3⟩ := atx.out _ hb12
          go_wp2_with fail
          refine (placeEnd x _ o0 t1 hm1' hm2').mono ?_
          rintro e w3 ⟨rfl, hb3⟩
          clear x0 x1 x2 x3
          go_wp2_with fail
          refine (h2.out _).mono ?_
          rintro e w4 ⟨rfl, hb4⟩
          have hb14 := hb12.trans (hb3.trans hb4)
          obtain ⟨x0, x1, x2, x3⟩ := atx.out _ hb14
          have hbx := (hbl.trans hV0).trans hb14
          have hat4 := hat.bl (hV0.trans hb14)
          obtain ⟨y0, y1, f0, f1⟩ := hat4
          go_wp2_with fail
          go_ret
          exact ⟨ret_int g.out, hbx⟩
        have hq1' : wt < x.t := by omega
        by_cases hq2 : x.r = wr'
        · have e1 : (x.r == wr') = true := by simp [hq2]
          by_cases hq3 : x.t = wt + 1
          · have g := hide (hno.out (by unfold runBehind; rw [decide_eq_true hq2, decide_eq_true hq3]; simp))
            have e2 : (x.t == wt + 1) = true := by simp [hq3]
            clear hz hf hd hgood hbad hdr hno hone hrel hq1 hq2 hq3
            go_wp2_with fail
            refine (placeFirst x _).mono ?_
            rintro e w1 ⟨rfl, hb1⟩
            go_wp2_with fail
            refine (h1.out _).mono ?_
            rintro e w2 ⟨rfl, hb2⟩
            have hb12 := hb1.trans hb2
            obtain ⟨x0, x1, x2, x3⟩ := atx.out _ hb12
            go_wp2_with fail
            refine (placeEnd x _ o0 t1 hm1' hm2').mono ?_
            rintro e w3 ⟨rfl, hb3⟩
            clear x0 x1 x2 x3
            go_wp2_with fail
            refine (h2.out _).mono ?_
            rintro e w4 ⟨rfl, hb4⟩
            have hb14 := hb12.trans (hb3.trans hb4)
            obtain ⟨x0, x1, x2, x3⟩ := atx.out _ hb14
            have hbx := (hbl.trans hV0).trans hb14
            have hat4 := hat.bl (hV0.trans hb14)
            obtain ⟨y0, y1, f0, f1⟩ := hat4
            go_wp2_with fail
            go_ret
            exact ⟨ret_int g.out, hbx⟩
          · have hbeh := hide (show runBehind wt wr' x = true by unfold runBehind; rw [decide_eq_true hq1', decide_eq_false hq3]; simp)
            have e2 : (x.t == wt + 1) = false := by simp [hq3]
            clear hz hf hd hgood hbad hdr hno hone hq1 hq2 hq3
            go_wp2_with fail
            refine (placeFirst x _).mono ?_
            rintro e w1 ⟨rfl, hb1⟩
            go_wp2_with fail
            refine (h1.out _).mono ?_
            rintro e w2 ⟨rfl, hb2⟩
            have hb12 := hb1.trans hb2
            obtain ⟨x0, x1, x2, x3⟩ := atx.out _ hb12
            go_wp2_with fail
            refine (placeEnd x _ o0 t1 hm1' hm2').mono ?_
            rintro e w3 ⟨rfl, hb3⟩
            clear x0 x1 x2 x3
            go_wp2_with fail
            refine (h2.out _).mono ?_
            rintro e w4 ⟨rfl, hb4⟩
            have hb14 := hb12.trans (hb3.trans hb4)
            obtain ⟨x0, x1, x2, x3⟩ := atx.out _ hb14
            have hbx := (hbl.trans hV0).trans hb14
            have hat4 := hat.bl (hV0.trans hb14)
            have hat4c := hat4
            obtain ⟨z0, z1, g0, g1⟩ := hat4c
            go_wp2_with fail
            clear z0 z1 g0 g1
            refine (placeEnd x _ o0 t1 hm1' hm2').mono ?_
            rintro e w5 ⟨rfl, hb5⟩
            have hb15 := hb14.trans hb5
            clear x0 x1 x2 x3
            obtain ⟨x0, x1, x2, x3⟩ := atx.out _ hb15
            obtain ⟨y0, y1, f0, f1⟩ := hat4.bl hb5
            have hat5 := (hat4.bl hb5).set ⟨x.t + x.m - 1, x.r⟩
            have hl5 := (hat4.bl hb5).lt
            have hne1 : w.heap.size ≠ wr.heap.size := by have := hat.lt; omega
            have hne2 : wr.heap.size ≠ w.heap.size := by have := hat.lt; omega
            go_wp2_with fail
            go_roundw
            case rel => exact hrel.out _ (((hbx.trans hb5).setCell (Nat.le_refl _) _).setCell (Nat.le_refl _) _) hat5 hbeh.out
            case measure => simp [intOf]; omega
        · have hbeh := hide (show runBehind wt wr' x = true by unfold runBehind; rw [decide_eq_true hq1', decide_eq_false hq2]; simp)
          have e1 : (x.r == wr') = false := by simp [hq2]
          clear hz hf hd hgood hbad hdr hno hone hq1 hq2
          go_wp2_with fail
          refine (placeFirst x _).mono ?_
          rintro e w1 ⟨rfl, hb1⟩
          go_wp2_with fail
          refine (h1.out _).mono ?_
          rintro e w2 ⟨rfl, hb2⟩
          have hb12 := hb1.trans hb2
          obtain ⟨x0, x1, x2, x3⟩ := atx.out _ hb12
          go_wp2_with fail
          refine (placeEnd x _ o0 t1 hm1' hm2').mono ?_
          rintro e w3 ⟨rfl, hb3⟩
          clear x0 x1 x2 x3
          go_wp2_with fail
          refine (h2.out _).mono ?_
          rintro e w4 ⟨rfl, hb4⟩
          have hb14 := hb12.trans (hb3.trans hb4)
          obtain ⟨x0, x1, x2, x3⟩ := atx.out _ hb14
          have hbx := (hbl.trans hV0).trans hb14
          have hat4 := hat.bl (hV0.trans hb14)
          have hat4c := hat4
          obtain ⟨z0, z1, g0, g1⟩ := hat4c
          go_wp2_with fail
          clear z0 z1 g0 g1
          refine (placeEnd x _ o0 t1 hm1' hm2').mono ?_
          rintro e w5 ⟨rfl, hb5⟩
          have hb15 := hb14.trans hb5
          clear x0 x1 x2 x3
          obtain ⟨x0, x1, x2, x3⟩ := atx.out _ hb15
          obtain ⟨y0, y1, f0, f1⟩ := hat4.bl hb5
          have hat5 := (hat4.bl hb5).set ⟨x.t + x.m - 1, x.r⟩
          have hl5 := (hat4.bl hb5).lt
          have hne1 : w.heap.size ≠ wr.heap.size := by have := hat.lt; omega
          have hne2 : wr.heap.size ≠ w.heap.size := by have := hat.lt; omega
          go_wp2_with fail
          go_roundw
          case rel => exact hrel.out _ (((hbx.trans hb5).setCell (Nat.le_refl _) _).setCell (Nat.le_refl _) _) hat5 hbeh.out
          case measure => simp [intOf]; omega
    · have hkl : p.length ≤ k := by omega
      have hre : runsFrom 0 (-1) p = true := by rw [hf.out, List.drop_eq_nil_of_le hkl]; rfl
      have hsum : runsDeep p = S := by rw [hd.out, List.drop_eq_nil_of_le hkl]; simp [runsDeep]
      have g := hgood.out hre
      rw [hsum] at g
      clear hf hd hz hbad hgood hre hsum hat
      by_cases h4 : S ≤ 4096
      · rw [decide_eq_true h4] at g
        replace g := hide g
        go_wp2
        go_ret
        exact ⟨ret_int (by rw [g.out]; rfl), hbl⟩
      · rw [decide_eq_false h4] at g
        replace g := hide g
        have h4' : 4096 < S := by omega
        go_wp2
        go_ret
        exact ⟨ret_int (by rw [g.out]; rfl), hbl⟩

set_option maxRecDepth 100000 in
set_option maxHeartbeats 1000000 in
theorem placeLast (A : Option Addr) (c : Nat) (p : List Run) (w : World) (hl : p.length ≤ maxLen) (hA : R cRun 0 w A p) :
    Calls Try.prog 98 #[.slice A p.length c] w fun e w' => e = .returned (.agg #[.int .u32 (placeFin p).t, .int .u8 (placeFin p).r]) ∧ Bl w w' := by
  have hl' := hl
  unfold maxLen at hl'
  have hc := fun W (hb : Bl w W) => placeCheck A c p W hl (hA.bl hb)
  have hV0 : Bl w (w.alloc (.cells #[Value.int IntKind.u32 0, Value.int IntKind.u8 0] 30)) := (Bl.refl _).alloc _
  have hat := IdBox.new w ⟨0, 0⟩ 30
  cases hm : placeMay p
  · have g := hide (show placeFin p = ⟨0, 0⟩ by unfold placeFin; rw [hm]; rfl)
    rw [hm, okOr_false] at hc
    replace hc := hide hc
    clear hm
    go_enter Try.func98, Try.ntmps98
    go_wp2_with fail
    refine (hc.out _ hV0).mono ?_
    rintro e w1 ⟨rfl, hb1⟩
    obtain ⟨y0, y1, f0, f1⟩ := hat.bl hb1
    have hl1 := (hat.bl hb1).lt
    go_wp2_with fail
    refine bodyPost_ret (v := .agg #[.int .u32 0, .int .u8 0]) (by simp [results, Try.results98, go_sem, y0, y1]) rfl ?_
    rw [g.out]
    exact ⟨rfl, ((hV0.trans hb1).setCell (Nat.le_refl _) _).setCell (Nat.le_refl _) _⟩
  obtain ⟨x, hx, hfx, hx0, hx1, hx2, hx3⟩ := placeFin_of hm
  have hn : 1 ≤ p.length := by have := (List.getElem?_eq_some_iff.1 hx).1; omega
  rw [hm, okOr_true] at hc
  replace hc := hide hc
  obtain ⟨b, off, rfl, _, hb⟩ := hA.addr (by omega)
  obtain ⟨_, ⟨o0, o1, o2, o3, o4, o5⟩, c0, c1, c2⟩ := hA.run hx
  have hnn : ((p.length : Int) - 1) = ((p.length - 1 : Nat) : Int) := by omega
  obtain ⟨n, hnl⟩ : ∃ n, n = p.length - 1 := ⟨_, rfl⟩
  rw [← hnl] at hnn hx c0 c1 c2
  have hni : n < p.length := by omega
  have g := hide hfx
  clear hm hfx hx hnl
  go_enter Try.func98, Try.ntmps98
  go_wp2_with fail
  refine (hc.out _ hV0).mono ?_
  rintro e w1 ⟨rfl, hb1⟩
  have hb01 := hV0.trans hb1
  replace c0 := (hb01.cell hb).trans c0
  replace c1 := (hb01.cell hb).trans c1
  replace c2 := (hb01.cell hb).trans c2
  have hb1s := hb01.size
  go_wp2_with fail
  refine (placeEnd x _ hx0 hx1 hx2 hx3).mono ?_
  rintro e w2 ⟨rfl, hb2⟩
  obtain ⟨y0, y1, f0, f1⟩ := hat.bl (hb1.trans hb2)
  have hl1 := (hat.bl (hb1.trans hb2)).lt
  go_wp2_with fail
  refine bodyPost_ret (v := .agg #[.int .u32 (x.t + x.m - 1), .int .u8 x.r]) (by simp [results, Try.results98, go_sem, y0, y1]) rfl ?_
  rw [g.out]
  exact ⟨rfl, ((hb01.trans hb2).setCell (Nat.le_refl _) _).setCell (Nat.le_refl _) _⟩
end Go.Proofs.Ytedcopjpgijpjaa

/-
  The contracts of stamp.at, Less, Check, place.first, last, Check once more: what was drawn is not put back.
-/
import Derived.Test.YteoodmilcpmmpaaGreatBd
import Derived.Test.YteoodmilcpmmpaaGreatRunB
namespace Go.Proofs.YteoodmilcpmmpaaGreat

open Go.RowKit

set_option maxHeartbeats 400000 in
theorem stampAtD (a : Id) (w : World) (_ha : a.ok) :
    Calls Tryz.prog 120 #[.agg #[.int .u32 a.t, .int .u8 a.r]] w fun e w' => e = .returned (.complex .f64 (floatOfInt .f64 a.t) (floatOfInt .f64 a.r)) ∧ Bd w w' := by
  go_enter Tryz.func120, Tryz.ntmps120
  go_wp2
  go_ret
  exact ⟨rfl, (Bd.refl _).alloc _⟩

set_option maxHeartbeats 400000 in
theorem stampLessD (a b : Id) (w : World) (ha : a.ok) (hb : b.ok) :
    Calls Tryz.prog 66 #[.agg #[.int .u32 a.t, .int .u8 a.r], .agg #[.int .u32 b.t, .int .u8 b.r]] w fun e w' => e = .returned (.bool (idLess a b)) ∧ Bd w w' := by
  obtain ⟨d1, h1, h1g, h1e⟩ := sub_of_int a.t b.t ha.1 ha.2.1 hb.1 hb.2.1
  obtain ⟨d2, h2, h2g, h2e⟩ := sub_of_int a.r b.r ha.2.2.1 (by have := ha.2.2.2; omega) hb.2.2.1 (by have := hb.2.2.2; omega)
  have hsub := fun w => run_complex_sum (P := Tryz.prog) w .sub (.inr rfl) 154 .f64 (floatOfInt .f64 b.t) (floatOfInt .f64 b.r) (floatOfInt .f64 a.t) (floatOfInt .f64 a.r) d1 d2 (by unfold cSumBits; simp [h1, h2])
  have H1 := hide h1; have H2 := hide h2
  clear h1 h2
  go_enter Tryz.func66, Tryz.ntmps66
  go_wp2
  obtain ⟨W, hW⟩ : ∃ W, W = (w.alloc (Obj.cells #[Value.int IntKind.u32 a.t, Value.int IntKind.u8 a.r] 25)).alloc (Obj.cells #[Value.int IntKind.u32 b.t, Value.int IntKind.u8 b.r] 25) := ⟨_, rfl⟩
  rw [← hW]
  have hbl : Bd w W := by rw [hW]; exact ((Bd.refl _).alloc _).alloc _
  have c0 : ∀ p : Wdd W, p.v.cell? ⟨w.heap.size, 0, none⟩ = some (.int .u32 a.t) := fun p => Wdd.cell (by rw [hW]; simp) (by rw [hW]; simp; omega) p
  have c1 : ∀ p : Wdd W, p.v.cell? ⟨w.heap.size, 1, none⟩ = some (.int .u8 a.r) := fun p => Wdd.cell (by rw [hW]; simp) (by rw [hW]; simp; omega) p
  have c2 : ∀ p : Wdd W, p.v.cell? ⟨w.heap.size + 1, 0, none⟩ = some (.int .u32 b.t) := fun p => Wdd.cell (by rw [hW]; simp) (by rw [hW]; simp) p
  have c3 : ∀ p : Wdd W, p.v.cell? ⟨w.heap.size + 1, 1, none⟩ = some (.int .u8 b.r) := fun p => Wdd.cell (by rw [hW]; simp) (by rw [hW]; simp) p
  clear hW
  (refine wp_region_wdd (by kernel_rfl) (by kernel_rfl) ?_
   repeat (go_big_quiet_step ((first | (go_at_call_of 120 a.t; exact Calls.wdd (stampAtD a _ ha)) | (go_at_call_of 120 b.t; exact Calls.wdd (stampAtD b _ hb)))))
   refine wpQuiet_nil ?_
   intro w2 hw'
   obtain ⟨⟨wx, hb2⟩, hw''⟩ := hw'
   subst hw'')
  have hfin := hbl.trans hb2
  by_cases g1 : a.t < b.t
  · have e1 : (FloatKind.f64.format.order d1 0 == some Ordering.gt) = true := by rw [h1g]; simp [g1]
    clear h1g h1e h2g h2e
    go_wp2
    go_ret
    exact ⟨ret_bool (by simp [idLess, g1]), hfin⟩
  · have e1 : (FloatKind.f64.format.order d1 0 == some Ordering.gt) = false := by rw [h1g]; simp [g1]
    by_cases g2 : a.t = b.t
    · have e2 : (FloatKind.f64.format.order d1 0 == some Ordering.eq) = true := by rw [h1e]; simp [g2]
      have G2 := hide g2
      clear h1g h1e h2e g2
      go_wp2
      go_ret
      exact ⟨ret_bool (by simp [idLess, G2.out]), hfin⟩
    · have e2 : (FloatKind.f64.format.order d1 0 == some Ordering.eq) = false := by rw [h1e]; simp [g2]
      clear h1g h1e h2g h2e
      go_wp2
      go_ret
      exact ⟨ret_bool (by simp [idLess, g1, g2]), hfin⟩

set_option maxHeartbeats 400000 in
theorem stampCheckD (a : Id) (w : World) :
    Calls Tryz.prog 96 #[.agg #[.int .u32 a.t, .int .u8 a.r]] w fun e w' => e = .returned (.int .i64 (okOr 8 (idMay a))) ∧ Bd w w' := by
  have hbl : ∀ x : Obj, Bd w (w.alloc x) := fun x => (Bd.refl _).alloc _
  go_enter Tryz.func96, Tryz.ntmps96
  go_wp2
  all_goals
    go_ret
    exact ⟨ret_int (by simp_all [idMay, okOr] <;> omega), hbl _⟩

set_option maxHeartbeats 400000 in
theorem placeFirstD (x : Run) (w : World) :
    Calls Tryz.prog 67 #[.agg #[.int .u32 x.t, .int .u8 x.r, .int .i64 x.m]] w fun e w' => e = .returned (.agg #[.int .u32 x.t, .int .u8 x.r]) ∧ Bd w w' := by
  go_enter Tryz.func67, Tryz.ntmps67
  go_wp2
  refine bodyPost_ret (v := .agg #[.int .u32 x.t, .int .u8 x.r]) (by simp [results, Tryz.results67, go_sem]) rfl ?_
  exact ⟨rfl, ((Bd.refl _).alloc _).alloc _⟩

set_option maxHeartbeats 400000 in
theorem placeEndD (x : Run) (w : World) (h0 : 0 ≤ x.t) (h1 : x.t ≤ 1073741824) (h2 : 1 ≤ x.m) (h3 : x.m ≤ 4096) :
    Calls Tryz.prog 97 #[.agg #[.int .u32 x.t, .int .u8 x.r, .int .i64 x.m]] w fun e w' => e = .returned (.agg #[.int .u32 (x.t + x.m - 1), .int .u8 x.r]) ∧ Bd w w' := by
  go_enter Tryz.func97, Tryz.ntmps97
  go_wp2
  refine bodyPost_ret (v := .agg #[.int .u32 (x.t + x.m - 1), .int .u8 x.r]) (by simp [results, Tryz.results97, go_sem]) rfl ?_
  exact ⟨rfl, ((Bd.refl _).alloc _).alloc _⟩

set_option maxRecDepth 100000 in
set_option maxHeartbeats 1000000 in
theorem placeCheckD (A : Option Addr) (c : Nat) (p : List Run) (w : World) (hl : p.length ≤ maxLen) (hA : R cRun 0 w A p) :
    Calls Tryz.prog 42 #[.slice A p.length c] w fun e w' => e = .returned (.int .i64 (okOr 8 (placeMay p))) ∧ Bd w w' := by
  unfold maxLen at hl
  obtain ⟨N, hN⟩ : ∃ N, N = okOr 8 (placeMay p) := ⟨_, rfl⟩
  rw [← hN]
  by_cases hn : p.length < 1
  · have e1 := hide (show N = 8 by rw [hN]; unfold placeMay; rw [decide_eq_false (show ¬ 1 ≤ p.length by omega)]; rfl)
    clear hN
    go_enter Tryz.func42, Tryz.ntmps42
    go_wp2
    go_ret
    exact ⟨ret_int e1.out.symm, Bd.refl _⟩
  by_cases hbig : 64 < p.length
  · have e1 := hide (show N = 8 by rw [hN]; unfold placeMay; rw [decide_eq_false (show ¬ p.length ≤ 64 by omega), Bool.and_false]; rfl)
    clear hN hn
    have hbig' : (64 : Int) < (p.length : Int) := by omega
    go_enter Tryz.func42, Tryz.ntmps42
    go_wp2
    go_ret
    exact ⟨ret_int e1.out.symm, Bd.refl _⟩
  have hbad := hide (show runsFrom 0 (-1) p = false → 8 = N from fun h => by rw [hN, placeMay_false h]; rfl)
  have hgood := hide (show runsFrom 0 (-1) p = true → N = okOr 8 (decide (runsDeep p ≤ 4096)) from fun h => by rw [hN]; unfold placeMay; rw [h, decide_eq_true (show 1 ≤ p.length by omega), decide_eq_true (show p.length ≤ 64 by omega)]; rfl)
  clear hN
  have h1 : (1 : Int) ≤ (p.length : Int) := by omega
  have h64 : (p.length : Int) ≤ 64 := by omega
  go_enter Tryz.func42, Tryz.ntmps42
  go_wp2
  go_loopw [3, 17] (fun s i wr => Bd w wr ∧ ∃ (k : Nat) (wt wr' S : Int), k ≤ p.length ∧ i = .int .i64 k ∧ s = .int .i64 S ∧ 0 ≤ S ∧ S ≤ 4096 * k ∧ 0 ≤ wt ∧ wt ≤ 1073741824 ∧
    IdBox wr w.heap.size ⟨wt, if k = 0 then 0 else wr'⟩ ∧ (k = 0 → wt = 0 ∧ wr' = -1) ∧ Hid (runsFrom 0 (-1) p = runsFrom wt wr' (p.drop k)) ∧ Hid (runsDeep p = S + runsDeep (p.drop k))) (fun _ i _ => p.length - (intOf i).toNat)
  case atStart => exact ⟨(Bd.refl _).alloc _, 0, 0, -1, 0, Nat.zero_le _, rfl, rfl, by omega, by omega, by omega, by omega, IdBox.new w ⟨0, 0⟩ _, fun _ => ⟨rfl, rfl⟩, rfl, by simp [Hid]⟩
  case round =>
    obtain ⟨hbl, k, wt, wr', S, hk, rfl, rfl, hS0, hS1, hw0, hw1, hat, hz, hf, hd⟩ := hrel
    by_cases hlt : k < p.length
    · have hR := hA.bd hbl
      obtain ⟨b, off, rfl, _, hb⟩ := hR.addr (by omega)
      obtain ⟨x, hx⟩ := get_lt hlt
      obtain ⟨_, ⟨o0, o1, o2, o3, o4, o5⟩, c0, c1, c2⟩ := hR.run hx
      have hdr := hide (drop_cons hx)
      clear hx
      have hki : (k : Int) < (p.length : Int) := by omega
      have hno : (runOne x && runBehind wt wr' x) = false → 8 = N := fun h => hbad.out (runsFrom_bad hf.out hdr.out h)
      replace hno := hide hno
      by_cases hm1 : x.m < 1
      · have g := hide (hno.out (by unfold runOne; rw [decide_eq_false (show ¬ 1 ≤ x.m by omega)]; rfl))
        clear hf hd hz hgood hbad hdr hat hno
        go_wp2
        go_ret
        exact ⟨ret_int g.out, hbl.alloc _⟩
      by_cases hm2 : 4096 < x.m
      · have g := hide (hno.out (by unfold runOne; rw [decide_eq_false (show ¬ x.m ≤ 4096 by omega), Bool.and_false]; rfl))
        clear hf hd hz hgood hbad hdr hat hno
        go_wp2
        go_ret
        exact ⟨ret_int g.out, hbl.alloc _⟩
      have hm1' : 1 ≤ x.m := by omega
      have hm2' : x.m ≤ 4096 := by omega
      clear hm1 hm2
      have hone : runOne x = (idMay ⟨x.t, x.r⟩ && idMay ⟨x.t + x.m - 1, x.r⟩) := by unfold runOne; rw [decide_eq_true hm1', decide_eq_true hm2']; rfl
      have h1 := fun W => stampCheckD ⟨x.t, x.r⟩ W
      have atx : ∀ V, Bd (wr.alloc (.cells #[Value.int IntKind.u32 x.t, Value.int IntKind.u8 x.r, Value.int IntKind.i64 x.m] 40)) V → V.cell? ⟨wr.heap.size, 0, none⟩ = some (.int .u32 x.t) ∧ V.cell? ⟨wr.heap.size, 1, none⟩ = some (.int .u8 x.r) ∧ V.cell? ⟨wr.heap.size, 2, none⟩ = some (.int .i64 x.m) ∧ wr.heap.size < V.heap.size := fun V hV => by
        have h := (At.new wr [Value.int IntKind.u32 x.t, Value.int IntKind.u8 x.r, Value.int IntKind.i64 x.m] 40).bd hV (by simp)
        exact ⟨(h 0 _ rfl).1, (h 1 _ rfl).1, (h 2 _ rfl).1, h.lt (by simp)⟩
      have hV0 : Bd wr (wr.alloc (.cells #[Value.int IntKind.u32 x.t, Value.int IntKind.u8 x.r, Value.int IntKind.i64 x.m] 40)) := (Bd.refl _).alloc _
      replace atx := hide atx
      cases hi1 : idMay ⟨x.t, x.r⟩
      · have g := hide (hno.out (by rw [hone, hi1]; rfl))
        rw [hi1, okOr_false] at h1
        replace h1 := hide h1
        clear hf hd hz hgood hbad hdr hat hno hone hi1
        go_wp2_with fail
        refine (placeFirstD x _).mono ?_
        rintro e w1 ⟨rfl, hb1⟩
        go_wp2_with fail
        refine (h1.out _).mono ?_
        rintro e w2 ⟨rfl, hb2⟩
        go_wp2_with fail
        go_ret
        exact ⟨ret_int g.out, (hbl.trans hV0).trans (hb1.trans hb2)⟩
      have hx1 : 1 ≤ x.t ∧ x.t ≤ 1073741824 ∧ x.r < 8 := by
        have := hi1
        unfold idMay at this
        simp at this
        omega
      obtain ⟨t0, t1, t2⟩ := hx1
      have h2 := fun W => stampCheckD ⟨x.t + x.m - 1, x.r⟩ W
      rw [hi1, okOr_true] at h1
      replace h1 := hide h1
      cases hi2 : idMay ⟨x.t + x.m - 1, x.r⟩
      · have g := hide (hno.out (by rw [hone, hi1, hi2]; rfl))
        rw [hi2, okOr_false] at h2
        replace h2 := hide h2
        clear hf hd hz hgood hbad hdr hat hno hone hi1 hi2
        go_wp2_with fail
        refine (placeFirstD x _).mono ?_
        rintro e w1 ⟨rfl, hb1⟩
        go_wp2_with fail
        refine (h1.out _).mono ?_
        rintro e w2 ⟨rfl, hb2⟩
        have hb12 := hb1.trans hb2
        obtain ⟨x0, x1, x2, x3⟩ := atx.out _ hb12
        go_wp2_with fail
        refine (placeEndD x _ o0 t1 hm1' hm2').mono ?_
        rintro e w3 ⟨rfl, hb3⟩
        go_wp2_with fail
        refine (h2.out _).mono ?_
        rintro e w4 ⟨rfl, hb4⟩
        go_wp2_with fail
        go_ret
        exact ⟨ret_int g.out, (hbl.trans hV0).trans (hb12.trans (hb3.trans hb4))⟩
      have hx2 : x.t + x.m - 1 ≤ 1073741824 := by
        have := hi2
        unfold idMay at this
        simp at this
        omega
      rw [hi1, hi2] at hone
      rw [hi2, okOr_true] at h2
      replace h2 := hide h2
      replace hone := hide (show runOne x = true from hone)
      clear hi1 hi2
      -- behind the checks
      have hrel : ∀ (W : World), Bd w W → IdBox W w.heap.size ⟨x.t + x.m - 1, x.r⟩ → runBehind wt wr' x = true → Bd w W ∧ ∃ (k' : Nat) (wt' wr'' S' : Int), k' ≤ p.length ∧ Value.int .i64 ((k : Int) + 1) = .int .i64 k' ∧ Value.int .i64 (S + x.m) = .int .i64 S' ∧ 0 ≤ S' ∧ S' ≤ 4096 * k' ∧ 0 ≤ wt' ∧ wt' ≤ 1073741824 ∧
          IdBox W w.heap.size ⟨wt', if k' = 0 then 0 else wr''⟩ ∧ (k' = 0 → wt' = 0 ∧ wr'' = -1) ∧ Hid (runsFrom 0 (-1) p = runsFrom wt' wr'' (p.drop k')) ∧ Hid (runsDeep p = S' + runsDeep (p.drop k')) := fun W hW hI hB =>
        ⟨hW, k + 1, x.t + x.m - 1, x.r, S + x.m, by omega, by go_num, rfl, by omega, by push_cast; omega, by omega, hx2, by rw [if_neg (by omega)]; exact hI, fun h => by omega, runsFrom_good hf.out hdr.out hone.out hB, by rw [hd.out, hdr.out, runsDeep]; simp only [Hid]; omega⟩
      replace hrel := hide hrel
      by_cases hk0 : k = 0
      · have hbeh := hide (show runBehind wt wr' x = true by obtain ⟨rfl, rfl⟩ := hz hk0; unfold runBehind; rw [decide_eq_true (show 0 < x.t by omega), decide_eq_false (show ¬ x.r = -1 by omega)]; rfl)
        have hki0 : ¬ (0 : Int) < (k : Int) := by omega
        clear hz hf hd hgood hbad hdr hno hone hk0
        go_wp2_with fail
        refine (placeFirstD x _).mono ?_
        rintro e w1 ⟨rfl, hb1⟩
        go_wp2_with fail
        refine (h1.out _).mono ?_
        rintro e w2 ⟨rfl, hb2⟩
        have hb12 := hb1.trans hb2
        obtain ⟨x0, x1, x2, x3⟩ := atx.out _ hb12
        go_wp2_with fail
        refine (placeEndD x _ o0 t1 hm1' hm2').mono ?_
        rintro e w3 ⟨rfl, hb3⟩
        clear x0 x1 x2 x3
        go_wp2_with fail
        refine (h2.out _).mono ?_
        rintro e w4 ⟨rfl, hb4⟩
        have hb14 := hb12.trans (hb3.trans hb4)
        obtain ⟨x0, x1, x2, x3⟩ := atx.out _ hb14
        have hbx := (hbl.trans hV0).trans hb14
        have hat4 := hat.bd (hV0.trans hb14)
        go_wp2_with fail
        refine (placeEndD x _ o0 t1 hm1' hm2').mono ?_
        rintro e w5 ⟨rfl, hb5⟩
        have hb15 := hb14.trans hb5
        clear x0 x1 x2 x3
        obtain ⟨x0, x1, x2, x3⟩ := atx.out _ hb15
        obtain ⟨y0, y1, f0, f1⟩ := hat4.bd hb5
        have hat5 := (hat4.bd hb5).set ⟨x.t + x.m - 1, x.r⟩
        have hl5 := (hat4.bd hb5).lt
        have hne1 : w.heap.size ≠ wr.heap.size := by have := hat.lt; omega
        have hne2 : wr.heap.size ≠ w.heap.size := by have := hat.lt; omega
        go_wp2_with fail
        go_roundw
        case rel => exact hrel.out _ (((hbx.trans hb5).setCell (Nat.le_refl _) _).setCell (Nat.le_refl _) _) hat5 hbeh.out
        case measure => simp [intOf]; omega
      · have hki0 : (0 : Int) < (k : Int) := by omega
        rw [if_neg hk0] at hat
        by_cases hq1 : x.t ≤ wt
        · have g := hide (hno.out (by unfold runBehind; rw [decide_eq_false (show ¬ wt < x.t by omega), Bool.false_and, Bool.and_false]))
          clear hz hf hd hgood hbad hdr hno hone hrel
          go_wp2_with fail
          refine (placeFirstD x _).mono ?_
          rintro e w1 ⟨rfl, hb1⟩
          go_wp2_with fail
          refine (h1.out _).mono ?_
          rintro e w2 ⟨rfl, hb2⟩
          have hb12 := hb1.trans hb2
          obtain ⟨x0, x1, x2, x3⟩ := atx.out _ hb12
          go_wp2_with fail
          refine (placeEndD x _ o0 t1 hm1' hm2').mono ?_
          rintro e w3 ⟨rfl, hb3⟩
          clear x0 x1 x2 x3
          go_wp2_with fail
          refine (h2.out _).mono ?_
          rintro e w4 ⟨rfl, hb4⟩
          have hb14 := hb12.trans (hb3.trans hb4)
          obtain ⟨x0, x1, x2, x3⟩ := atx.out _ hb14
          have hbx := (hbl.trans hV0).trans hb14
          have hat4 := hat.bd (hV0.trans hb14)
          obtain ⟨y0, y1, f0, f1⟩ := hat4
          go_wp2_with fail
          go_ret
          exact ⟨ret_int g.out, hbx⟩
        have hq1' : wt < x.t := by omega
        by_cases hq2 : x.r = wr'
        · have e1 : (x.r == wr') = true := by simp [hq2]
          by_cases hq3 : x.t = wt + 1
          · have g := hide (hno.out (by unfold runBehind; rw [decide_eq_true hq2, decide_eq_true hq3]; simp))
            have e2 : (x.t == wt + 1) = true := by simp [hq3]
            clear hz hf hd hgood hbad hdr hno hone hrel hq1 hq2 hq3
            go_wp2_with fail
            refine (placeFirstD x _).mono ?_
            rintro e w1 ⟨rfl, hb1⟩
            go_wp2_with fail
            refine (h1.out _).mono ?_
            rintro e w2 ⟨rfl, hb2⟩
            have hb12 := hb1.trans hb2
            obtain ⟨x0, x1, x2, x3⟩ := atx.out _ hb12
            go_wp2_with fail
            refine (placeEndD x _ o0 t1 hm1' hm2').mono ?_
            rintro e w3 ⟨rfl, hb3⟩
            clear x0 x1 x2 x3
            go_wp2_with fail
            refine (h2.out _).mono ?_
            rintro e w4 ⟨rfl, hb4⟩
            have hb14 := hb12.trans (hb3.trans hb4)
            obtain ⟨x0, x1, x2, x3⟩ := atx.out _ hb14
            have hbx := (hbl.trans hV0).trans hb14
            have hat4 := hat.bd (hV0.trans hb14)
            obtain ⟨y0, y1, f0, f1⟩ := hat4
            go_wp2_with fail
            go_ret
            exact ⟨ret_int g.out, hbx⟩
          · have hbeh := hide (show runBehind wt wr' x = true by unfold runBehind; rw [decide_eq_true hq1', decide_eq_false hq3]; simp)
            have e2 : (x.t == wt + 1) = false := by simp [hq3]
            clear hz hf hd hgood hbad hdr hno hone hq1 hq2 hq3
            go_wp2_with fail
            refine (placeFirstD x _).mono ?_
            rintro e w1 ⟨rfl, hb1⟩
            go_wp2_with fail
            refine (h1.out _).mono ?_
            rintro e w2 ⟨rfl, hb2⟩
            have hb12 := hb1.trans hb2
            obtain ⟨x0, x1, x2, x3⟩ := atx.out _ hb12
            go_wp2_with fail
            refine (placeEndD x _ o0 t1 hm1' hm2').mono ?_
            rintro e w3 ⟨rfl, hb3⟩
            clear x0 x1 x2 x3
            go_wp2_with fail
            refine (h2.out _).mono ?_
            rintro e w4 ⟨rfl, hb4⟩
            have hb14 := hb12.trans (hb3.trans hb4)
            obtain ⟨x0, x1, x2, x3⟩ := atx.out _ hb14
            have hbx := (hbl.trans hV0).trans hb14
            have hat4 := hat.bd (hV0.trans hb14)
            have hat4c := hat4
            obtain ⟨z0, z1, g0, g1⟩ := hat4c
            go_wp2_with fail
            clear z0 z1 g0 g1
            refine (placeEndD x _ o0 t1 hm1' hm2').mono ?_
            rintro e w5 ⟨rfl, hb5⟩
            have hb15 := hb14.trans hb5
            clear x0 x1 x2 x3
            obtain ⟨x0, x1, x2, x3⟩ := atx.out _ hb15
            obtain ⟨y0, y1, f0, f1⟩ := hat4.bd hb5
            have hat5 := (hat4.bd hb5).set ⟨x.t + x.m - 1, x.r⟩
            have hl5 := (hat4.bd hb5).lt
            have hne1 : w.heap.size ≠ wr.heap.size := by have := hat.lt; omega
            have hne2 : wr.heap.size ≠ w.heap.size := by have := hat.lt; omega
            go_wp2_with fail
            go_roundw
            case rel => exact hrel.out _ (((hbx.trans hb5).setCell (Nat.le_refl _) _).setCell (Nat.le_refl _) _) hat5 hbeh.out
            case measure => simp [intOf]; omega
        · have hbeh := hide (show runBehind wt wr' x = true by unfold runBehind; rw [decide_eq_true hq1', decide_eq_false hq2]; simp)
          have e1 : (x.r == wr') = false := by simp [hq2]
          clear hz hf hd hgood hbad hdr hno hone hq1 hq2
          go_wp2_with fail
          refine (placeFirstD x _).mono ?_
          rintro e w1 ⟨rfl, hb1⟩
          go_wp2_with fail
          refine (h1.out _).mono ?_
          rintro e w2 ⟨rfl, hb2⟩
          have hb12 := hb1.trans hb2
          obtain ⟨x0, x1, x2, x3⟩ := atx.out _ hb12
          go_wp2_with fail
          refine (placeEndD x _ o0 t1 hm1' hm2').mono ?_
          rintro e w3 ⟨rfl, hb3⟩
          clear x0 x1 x2 x3
          go_wp2_with fail
          refine (h2.out _).mono ?_
          rintro e w4 ⟨rfl, hb4⟩
          have hb14 := hb12.trans (hb3.trans hb4)
          obtain ⟨x0, x1, x2, x3⟩ := atx.out _ hb14
          have hbx := (hbl.trans hV0).trans hb14
          have hat4 := hat.bd (hV0.trans hb14)
          have hat4c := hat4
          obtain ⟨z0, z1, g0, g1⟩ := hat4c
          go_wp2_with fail
          clear z0 z1 g0 g1
          refine (placeEndD x _ o0 t1 hm1' hm2').mono ?_
          rintro e w5 ⟨rfl, hb5⟩
          have hb15 := hb14.trans hb5
          clear x0 x1 x2 x3
          obtain ⟨x0, x1, x2, x3⟩ := atx.out _ hb15
          obtain ⟨y0, y1, f0, f1⟩ := hat4.bd hb5
          have hat5 := (hat4.bd hb5).set ⟨x.t + x.m - 1, x.r⟩
          have hl5 := (hat4.bd hb5).lt
          have hne1 : w.heap.size ≠ wr.heap.size := by have := hat.lt; omega
          have hne2 : wr.heap.size ≠ w.heap.size := by have := hat.lt; omega
          go_wp2_with fail
          go_roundw
          case rel => exact hrel.out _ (((hbx.trans hb5).setCell (Nat.le_refl _) _).setCell (Nat.le_refl _) _) hat5 hbeh.out
          case measure => simp [intOf]; omega
    · have hkl : p.length ≤ k := by omega
      have hre : runsFrom 0 (-1) p = true := by rw [hf.out, List.drop_eq_nil_of_le hkl]; rfl
      have hsum : runsDeep p = S := by rw [hd.out, List.drop_eq_nil_of_le hkl]; simp [runsDeep]
      have g := hgood.out hre
      rw [hsum] at g
      clear hf hd hz hbad hgood hre hsum hat
      by_cases h4 : S ≤ 4096
      · rw [decide_eq_true h4] at g
        replace g := hide g
        go_wp2
        go_ret
        exact ⟨ret_int (by rw [g.out]; rfl), hbl⟩
      · rw [decide_eq_false h4] at g
        replace g := hide g
        have h4' : 4096 < S := by omega
        go_wp2
        go_ret
        exact ⟨ret_int (by rw [g.out]; rfl), hbl⟩

end Go.Proofs.YteoodmilcpmmpaaGreat

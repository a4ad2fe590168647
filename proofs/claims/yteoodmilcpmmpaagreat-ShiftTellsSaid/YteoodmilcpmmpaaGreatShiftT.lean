/-
  The walk of shift.joined, where both are here.
  The walks of slices.ContainsFunc at operations, of marks.Joined and its closure.
  The walk of shift.joined, where neither is here, and whole.
  The walks of shift.Turn, its closure.
  The walks of law 20's inner ones: mark, join, ready, turns, alive.
-/
import Derived.Test.YteoodmilcpmmpaaGreatShiftR
import Derived.Test.YteoodmilcpmmpaaGreatLessB
import Derived.Test.YteoodmilcpmmpaaGreatLiveP
import Derived.Test.YteoodmilcpmmpaaGreatJoinTF
import Derived.Test.YteoodmilcpmmpaaGreatShelfRef
namespace Go.Proofs.YteoodmilcpmmpaaGreat

open Go.RowKit

set_option maxRecDepth 100000 in
set_option maxHeartbeats 16000000 in
theorem shiftJoinedTT (A B S : Option Addr) (c d sc : Nat) (l : List Op) (H : List Entry) (o : Op) (w : World) (hl : l.length ≤ maxLen) (hh : H.length ≤ 65) (hsm : smallS H) (hA : R cOp 0 w A l) (hB : R cEntry 0 w B H) (ho : OpIn w o S sc) (his0 : findB H (aheadS l (placeFin o.pl)) = true) (hwas0 : findB H (placeFin o.pl) = true) :
    Calls Tryz.prog 74 #[.slice A l.length c, .slice B H.length d, .agg #[.int .u8 o.kind, .int .u32 o.id.t, .int .u8 o.id.r, .slice S o.pl.length sc, .int .i64 o.pt]] w (New2 cEntry (joinEL l H o) (joinEN l H o) w) := by
  obtain ⟨W, hW⟩ : ∃ W, W = w.alloc (.cells #[Value.int IntKind.u8 o.kind, Value.int IntKind.u32 o.id.t, Value.int IntKind.u8 o.id.r, Value.slice S o.pl.length sc, Value.int IntKind.i64 o.pt] 47) := ⟨_, rfl⟩
  have hbW : Bl w W := by rw [hW]; exact (Bl.refl _).alloc _
  have at0 : OpBox W w.heap.size o S sc := by rw [hW]; exact OpBox.new w o S sc _
  have hla := hide (placeLast S sc o.pl W ho.small (ho.hR.bl hbW))
  have hmok := fin_ok ho.hR
  have haok := aheadS_ok hA.oksO (placeFin o.pl)
  have hah := hide fun V (hv : Bl w V) => homeAhead A c l (placeFin o.pl) V hl (hA.bl hv)
  have hfa := hide fun V (hv : Bl w V) => shelfFind B d H (aheadS l (placeFin o.pl)) V (by omega) haok (hB.bl hv)
  have hfm := hide fun V (hv : Bl w V) => shelfFind B d H (placeFin o.pl) V (by omega) hmok (hB.bl hv)
  have htw := hide fun V (hv : Bl w V) => shelfTwinO B d H V hsm (hB.bl hv)
  have hadd := hide fun V (hv : Bl w V) => bagAdd A S c sc l o V hl (hA.bl hv) (ho.bl hv)
  have hdr := hide fun V (hv : Bl w V) => shelfDrop B d H (placeFin o.pl) V (by omega) hmok (hB.bl hv)
  have hxok := findE_ok hB.oksE (aheadS l (placeFin o.pl))
  have hyok := findE_ok hB.oksE (placeFin o.pl)
  have hdl := dropL_len H (placeFin o.pl)
  obtain ⟨Z, hZ⟩ : ∃ Z, Z = joinZ l H o := ⟨_, rfl⟩
  obtain ⟨L, hL⟩ : ∃ L, L = joinEL l H o := ⟨_, rfl⟩
  obtain ⟨N, hN⟩ : ∃ N, N = joinEN l H o := ⟨_, rfl⟩
  rw [← hL, ← hN]
  unfold joinEL someB joinH at hL
  unfold joinEN someB joinH at hN
  rw [← hZ] at hL hN
  unfold joinZ at hZ
  have hwl := hide fun X x V (hX : R cOp 0 V X (addL l o)) (hN : addN l o = 0) => shiftWhole X x (addL l o) (aheadS l (placeFin o.pl)) V (by have := addL_small hN; omega) hX
  obtain ⟨x0, x1, x2, x3, x4⟩ := at0.cells
  have hxl := at0.lt
  rw [his0, hwas0] at hZ
  rw [his0, hwas0, if_pos (by decide)] at hL hN
  rw [his0] at hfa
  rw [hwas0] at hfm
  replace hL := hide hL
  generalize whereN l (placeFin o.pl) 1 = wn at *
  generalize aheadS l (placeFin o.pl) = a at *
  generalize placeFin o.pl = m at *
  generalize findE H a = x at *
  generalize findE H m = y at *
  generalize addL l o = l2 at *
  generalize addN l o = n2 at *
  generalize wholeB l2 a = wh at *
  replace hN := hide hN
  replace hZ := hide hZ
  go_enter Tryz.func74, Tryz.ntmps74
  go_wp2_with fail
  rw [← hW]
  clear hW
  refine hla.out.mono ?_
  rintro e w1 ⟨rfl, hb1⟩
  obtain ⟨V1, hV1⟩ : ∃ V1, V1 = w1.alloc (.cells #[Value.int IntKind.u32 m.t, Value.int IntKind.u8 m.r] 25) := ⟨_, rfl⟩
  have at1 : IdBox V1 w1.heap.size m := by rw [hV1]; exact IdBox.new w1 m _
  have hb1V : Bl w1 V1 := by rw [hV1]; exact (Bl.refl _).alloc _
  have hbW1 := hb1.trans hb1V
  clear x0 x1 x2 x3 x4 hxl hla
  go_wp2_with fail
  rw [← hV1]
  clear hV1
  refine (hah.out _ (hbW.trans hbW1)).mono ?_
  rintro e w2 ⟨rfl, hb2⟩
  obtain ⟨V2, hV2⟩ : ∃ V2, V2 = w2.alloc (.cells #[Value.int IntKind.u32 a.t, Value.int IntKind.u8 a.r] 25) := ⟨_, rfl⟩
  have at2 : IdBox V2 w2.heap.size a := by rw [hV2]; exact IdBox.new w2 a _
  have hb2V : Bl w2 V2 := by rw [hV2]; exact (Bl.refl _).alloc _
  have hb12 := hb2.trans hb2V
  have hbW2 := hbW1.trans hb12
  clear hah
  go_wp2_with fail
  rw [← hV2]
  clear hV2
  refine (hfa.out _ (hbW.trans hbW2)).mono ?_
  rintro e w3 ⟨XA, xc, XB, xd, rfl, -, -, -, -, -, -, hb3⟩
  obtain ⟨V3, hV3⟩ : ∃ V3, V3 = w3.alloc (.cells #[Value.int IntKind.u32 x.id.t, Value.int IntKind.u8 x.id.r, Value.bool x.ready, Value.bool x.pin, Value.int IntKind.i64 x.used, Value.bool x.known, Value.slice XA x.snap.length xc, Value.slice XB x.got.length xd] 62) := ⟨_, rfl⟩
  have at3 : EntAt V3 w3.heap.size x XA xc XB xd := by rw [hV3]; exact EntAt.new w3 x XA xc XB xd _
  have hb3V : Bl w3 V3 := by rw [hV3]; exact (Bl.refl _).alloc _
  have hb23 := hb3.trans hb3V
  obtain ⟨i0, i1, -, -⟩ := at1.bl (hb12.trans hb23)
  have hil := (at1.bl (hb12.trans hb23)).lt
  clear hfa
  go_upto_region 4 with fail
  rw [← hV3]
  clear hV3
  go_wp2_with fail
  refine (hfm.out _ (hbW.trans (hbW2.trans hb23))).mono ?_
  rintro e w4 ⟨YA, yc, YB, yd, rfl, -, -, -, -, -, -, hb4⟩
  obtain ⟨V4, hV4⟩ : ∃ V4, V4 = w4.alloc (.cells #[Value.int IntKind.u32 y.id.t, Value.int IntKind.u8 y.id.r, Value.bool y.ready, Value.bool y.pin, Value.int IntKind.i64 y.used, Value.bool y.known, Value.slice YA y.snap.length yc, Value.slice YB y.got.length yd] 62) := ⟨_, rfl⟩
  have at4 : EntAt V4 w4.heap.size y YA yc YB yd := by rw [hV4]; exact EntAt.new w4 y YA yc YB yd _
  have hb4V : Bl w4 V4 := by rw [hV4]; exact (Bl.refl _).alloc _
  have hb34 := hb3V.trans (hb4.trans hb4V)
  have at34 := at3.bl (hb4.trans hb4V)
  have hY4 : w3.heap.size < w4.heap.size := Nat.lt_of_lt_of_le at3.lt hb4.size
  have hbW3 := hbW2.trans hb3
  clear hfm i0 i1 hil
  have hg1 : (!true && !true) = false := rfl
  clear htw his0 hwas0
  go_wp2_with fail
  rw [← hV4]
  clear hV4 hg1
  refine (shiftBlank at34).mono ?_
  rintro e w5 ⟨rfl, hw5⟩
  have at5 := set3_at at34
  have hb5 := set3_bl hb34 (Nat.le_refl _)
  have at45 := set3_other at4 (Nat.ne_of_lt hY4)
  rw [← hw5] at at5 hb5 at45
  clear hw5 at34 at4 hb34
  have hbW5 := hbW3.trans hb5
  obtain ⟨x0, x1, x2, x3, x4⟩ := (at0.bl hbW5).cells
  have hxl := (at0.bl hbW5).lt
  go_wp2_with fail
  refine (hadd.out _ (hbW.trans hbW5)).mono ?_
  rintro e w6 ⟨M, mc, rfl, m1, m2, hM, hb6⟩
  clear x0 x1 x2 x3 x4 hxl hadd
  by_cases hn2 : n2 = 0
  rotate_left
  · replace hL := hL.out
    replace hN := hN.out
    rw [if_neg hn2] at hL hN
    have hNz : (n2 == 0) = false := by rw [beq_eq_false_iff_ne]; exact hn2
    subst hL hN
    go_wp2_with fail
    go_ret2
    exact ⟨none, 0, rfl, Nat.le_refl _, Nat.zero_le _, R.nil, hbW.trans (hbW5.trans hb6)⟩
  replace hL := hL.out
  replace hN := hN.out
  rw [if_pos hn2] at hL hN
  replace hL := hide hL
  replace hN := hide hN
  have hwh := hide fun V (hv : Bl w6 V) => hwl.out M mc V (hM.zero.bl hv) hn2
  subst hn2
  have at6 := at5.bl hb6
  have at46 := at45.bl hb6
  have hb36 := hb5.trans hb6
  have hbW6 := hbW3.trans hb36
  obtain ⟨i0, i1, -, -⟩ := at2.bl (hb3.trans hb36)
  have hil := (at2.bl (hb3.trans hb36)).lt
  obtain ⟨x0, x1, x2, x3, x4, x5, x6, x7⟩ := at6.cells
  obtain ⟨f0, f1, f2, f3, f4, f5, f6, f7⟩ := at6.frozens
  have hxl := at6.lt
  obtain ⟨y0, y1, y2, y3, y4, y5, y6, y7⟩ := at46.cells
  have hyl := at46.lt
  go_upto_region 11 with fail
  have hz0 : Z.known = false ∧ Z.snap = [] ∧ Z.got = [] := by rw [hZ.out]; exact ⟨rfl, rfl, rfl⟩
  have hzok : Z.ok := by
    rw [hZ.out]
    refine ⟨haok, ?_⟩
    obtain ⟨u1, u2⟩ := hxok.2
    obtain ⟨u3, u4⟩ := hyok.2
    unfold i64ok
    dsimp only
    omega
  have hzh : ∀ V : World, Held V Z none 0 none 0 := fun V => by
    obtain ⟨-, h1, h2⟩ := hz0
    refine ⟨?_, Nat.zero_le _, ?_, Nat.zero_le _, ?_, ?_⟩
    · rw [h1]; exact Nat.le_refl _
    · rw [h2]; exact Nat.le_refl _
    · rw [h1]; exact R.nil
    · rw [h2]; exact R.nil
  replace hzh := hide hzh
  go_cut [] from 56 to 88 (fun wx => EntAt wx w3.heap.size Z none 0 none 0 ∧ Bl w3 wx)
  case first =>
    replace at6 := hide at6
    replace at46 := hide at46
    dsimp only [blankE] at x0 x1 x2 x3 x4 x5 x6 x7
    replace hZ := hZ.out
    obtain ⟨px, hpx⟩ : ∃ b, x.pin = b := ⟨_, rfl⟩
    obtain ⟨rx, hrx⟩ : ∃ b, x.ready = b := ⟨_, rfl⟩
    obtain ⟨ry, hry⟩ : ∃ b, y.ready = b := ⟨_, rfl⟩
    rw [hpx] at x3 hZ
    rw [hrx] at x2 hZ
    rw [hry] at y2 hZ
    have n23 : w2.heap.size ≠ w3.heap.size := by
      have h1 := at2.lt
      have h2 := hb3.size
      omega
    have n43 : w4.heap.size ≠ w3.heap.size := by omega
    have hG : W6F w2.heap.size w3.heap.size w4.heap.size a rx px x.used ry y.pin y.used w6.drew := ⟨i0, i1, x2, x3, x4, y2, y3, y4⟩
    have hkeep := fun (V : World) (h : W6F w2.heap.size w3.heap.size w4.heap.size a rx px x.used ry y.pin y.used V) => HoldT.two (n1 := 32) (n2 := 36) (F1 := W6F w2.heap.size w3.heap.size w4.heap.size a rx px x.used ry y.pin y.used) (F2 := Y2F w4.heap.size y.pin y.used) h ⟨h.2.2.2.2.2.2.1, h.2.2.2.2.2.2.2⟩
    have hsetM := fun (V : World) (hV : Y2F w4.heap.size y.pin y.used V) (j : Nat) (u : Value) => Y2F.set n43 hV (j := j) u
    have hF := hkeep _ hG
    have hsetF := fun (V : World) (hV : W6F w2.heap.size w3.heap.size w4.heap.size a rx px x.used ry y.pin y.used V) => W6F.set n23 n43 hV a
    have hat := fun (V : World) (hV : Bl w6 V) => set4_at (z := Z) (at6.out.bl hV) hz0
    have hbs := fun (V : World) (hV : Bl w6 V) => set4_bl (z := Z) (hb36.trans hV) (Nat.le_refl _)
    replace hpx := hide hpx
    replace hrx := hide hrx
    replace hry := hide hry
    replace hZ := hide hZ
    refine wp_region_tail [(32, W6F w2.heap.size w3.heap.size w4.heap.size a rx px x.used ry y.pin y.used), (36, Y2F w4.heap.size y.pin y.used)] (by kernel_rfl) ?_
    try (change wpAnyT _ _ _ _ _ _ _ _ (World.drew _))
    cases rx
    · cases px
      · refine wpAnyT_take (i := 0) (v := ?_) (List.mem_cons_self ..) rfl (by kernel_rfl) (by kernel_rfl) (by kernel_rfl) (by kernel_rfl) (fun _ _ _ h => h) (Or.inl ⟨by kernel_rfl, by rintro w ⟨g0, g1, g2, g3, g4, g5, g6, g7⟩; go_simp; try with_reducible rfl⟩) (hF _) ?_
        refine wpAnyT_pure (i := 1) (v := ?_) rfl (by kernel_rfl) (by kernel_rfl) (by kernel_rfl) (by kernel_rfl) (fun _ _ _ h => h) (Or.inl ⟨by kernel_rfl, by intro w _; go_simp; try with_reducible rfl⟩) (hF _) ?_
        refine wpAnyT_pure (i := 2) (v := ?_) rfl (by kernel_rfl) (by kernel_rfl) (by kernel_rfl) (by kernel_rfl) (fun _ _ _ h => h) (Or.inl ⟨by kernel_rfl, by intro w _; go_simp; try with_reducible rfl⟩) (hF _) ?_
        refine wpAnyT_pure (i := 3) (v := ?_) rfl (by kernel_rfl) (by kernel_rfl) (by kernel_rfl) (by kernel_rfl) (fun _ _ _ h => h) (Or.inl ⟨by kernel_rfl, by intro w _; go_simp; try with_reducible rfl⟩) (hF _) ?_
        refine wpAnyT_pure (i := 4) (v := ?_) rfl (by kernel_rfl) (by kernel_rfl) (by kernel_rfl) (by kernel_rfl) (fun _ _ _ h => h) (Or.inl ⟨by kernel_rfl, by intro w _; go_simp; try with_reducible rfl⟩) (hF _) ?_
        refine wpAnyT_pure (i := 5) (v := ?_) rfl (by kernel_rfl) (by kernel_rfl) (by kernel_rfl) (by kernel_rfl) (fun _ _ _ h => h) (Or.inl ⟨by kernel_rfl, by intro w _; go_simp; try with_reducible rfl⟩) (hF _) ?_
        refine wpAnyT_pure (i := 6) (v := ?_) rfl (by kernel_rfl) (by kernel_rfl) (by kernel_rfl) (by kernel_rfl) (fun _ _ _ h => h) (Or.inl ⟨by kernel_rfl, by intro w _; go_simp; try with_reducible rfl⟩) (hF _) ?_
        refine wpAnyT_take (i := 7) (v := ?_) (List.mem_cons_self ..) rfl (by kernel_rfl) (by kernel_rfl) (by kernel_rfl) (by kernel_rfl) (fun _ _ _ h => h) (Or.inl ⟨by kernel_rfl, by rintro w ⟨g0, g1, g2, g3, g4, g5, g6, g7⟩; go_simp; try with_reducible rfl⟩) (hF _) ?_
        refine wpAnyT_pure (i := 8) (v := ?_) rfl (by kernel_rfl) (by kernel_rfl) (by kernel_rfl) (by kernel_rfl) (fun _ _ _ h => h) (Or.inl ⟨by kernel_rfl, by intro w _; go_simp; try with_reducible rfl⟩) (hF _) ?_
        refine wpAnyT_pure (i := 9) (v := ?_) rfl (by kernel_rfl) (by kernel_rfl) (by kernel_rfl) (by kernel_rfl) (fun _ _ _ h => h) (Or.inl ⟨by kernel_rfl, by intro w _; go_simp; try with_reducible rfl⟩) (hF _) ?_
        refine wpAnyT_pure (i := 10) (v := undef) rfl (by kernel_rfl) (by kernel_rfl) (by kernel_rfl) (by kernel_rfl) (fun _ _ _ h => h) (Or.inr ⟨by kernel_rfl, rfl⟩) (hF _) ?_
        refine wpAnyT_pure (i := 11) (v := undef) rfl (by kernel_rfl) (by kernel_rfl) (by kernel_rfl) (by kernel_rfl) (fun _ _ _ h => h) (Or.inr ⟨by kernel_rfl, rfl⟩) (hF _) ?_
        refine wpAnyT_pure (i := 12) (v := ?_) rfl (by kernel_rfl) (by kernel_rfl) (by kernel_rfl) (by kernel_rfl) (fun _ _ _ h => h) (Or.inl ⟨by kernel_rfl, by intro w _; go_simp; try with_reducible rfl⟩) (hF _) ?_
        refine wpAnyT_pure (i := 13) (v := ?_) rfl (by kernel_rfl) (by kernel_rfl) (by kernel_rfl) (by kernel_rfl) (fun _ _ _ h => h) (Or.inl ⟨by kernel_rfl, by intro w _; go_simp; try with_reducible rfl⟩) (hF _) ?_
        refine wpAnyT_pure (i := 14) (v := undef) rfl (by kernel_rfl) (by kernel_rfl) (by kernel_rfl) (by kernel_rfl) (fun _ _ _ h => h) (Or.inr ⟨by kernel_rfl, rfl⟩) (hF _) ?_
        refine wpAnyT_pure (i := 15) (v := undef) rfl (by kernel_rfl) (by kernel_rfl) (by kernel_rfl) (by kernel_rfl) (fun _ _ _ h => h) (Or.inr ⟨by kernel_rfl, rfl⟩) (hF _) ?_
        refine wpAnyT_pure (i := 18) (v := ?_) rfl (by kernel_rfl) (by kernel_rfl) (by kernel_rfl) (by kernel_rfl) (fun _ _ _ h => h) (Or.inl ⟨by kernel_rfl, by intro w _; go_simp; try with_reducible rfl⟩) (hF _) ?_
        refine wpAnyT_take (i := 19) (v := ?_) (List.mem_cons_self ..) rfl (by kernel_rfl) (by kernel_rfl) (by kernel_rfl) (by kernel_rfl) (fun _ _ _ h => h) (Or.inl ⟨by kernel_rfl, by rintro w ⟨g0, g1, g2, g3, g4, g5, g6, g7⟩; go_simp; try with_reducible rfl⟩) (hF _) ?_
        refine wpAnyT_pure (i := 24) (v := ?_) rfl (by kernel_rfl) (by kernel_rfl) (by kernel_rfl) (by kernel_rfl) (fun _ _ _ h => h) (Or.inl ⟨by kernel_rfl, by intro w _; go_simp; try with_reducible rfl⟩) (hF _) ?_
        refine wpAnyT_take (i := 25) (v := ?_) (List.mem_cons_self ..) rfl (by kernel_rfl) (by kernel_rfl) (by kernel_rfl) (by kernel_rfl) (fun _ _ _ h => h) (Or.inl ⟨by kernel_rfl, by rintro w ⟨g0, g1, g2, g3, g4, g5, g6, g7⟩; go_simp; try with_reducible rfl⟩) (hF _) ?_
        refine wpAnyT_pure (i := 26) (v := ?_) rfl (by kernel_rfl) (by kernel_rfl) (by kernel_rfl) (by kernel_rfl) (fun _ _ _ h => h) (Or.inl ⟨by kernel_rfl, by intro w _; go_simp; try with_reducible rfl⟩) (hF _) ?_
        refine wpAnyT_take (i := 27) (v := ?_) (List.mem_cons_of_mem _ (List.mem_cons_self ..)) rfl (by kernel_rfl) (by kernel_rfl) (by kernel_rfl) (by kernel_rfl) (fun _ _ _ h => h) (Or.inl ⟨by kernel_rfl, by rintro w ⟨g6, g7⟩; go_simp; try with_reducible rfl⟩) (hF _) ?_
        refine wpAnyT_pure (i := 28) (v := ?_) rfl (by kernel_rfl) (by kernel_rfl) (by kernel_rfl) (by kernel_rfl) (fun _ _ _ h => h) (Or.inl ⟨by kernel_rfl, by intro w _; go_simp; try with_reducible rfl⟩) (hF _) ?_
        refine wpAnyT_pure (i := 16) (v := undef) rfl (by kernel_rfl) (by kernel_rfl) (by kernel_rfl) (by kernel_rfl) (fun _ _ _ h => h) (Or.inr ⟨by kernel_rfl, rfl⟩) (hF _) ?_
        refine wpAnyT_pure (i := 17) (v := ?_) rfl (by kernel_rfl) (by kernel_rfl) (by kernel_rfl) (by kernel_rfl) (fun _ _ _ h => h) (Or.inl ⟨by kernel_rfl, by intro w _; go_simp; try with_reducible rfl⟩) (hF _) ?_
        refine wpAnyT_pure (i := 20) (v := ?_) rfl (by kernel_rfl) (by kernel_rfl) (by kernel_rfl) (by kernel_rfl) (fun _ _ _ h => h) (Or.inl ⟨by kernel_rfl, by intro w _; go_simp; try with_reducible rfl⟩) (hF _) ?_
        refine wpAnyT_pure (i := 21) (v := ?_) rfl (by kernel_rfl) (by kernel_rfl) (by kernel_rfl) (by kernel_rfl) (fun _ _ _ h => h) (Or.inl ⟨by kernel_rfl, by intro w _; go_simp; try with_reducible rfl⟩) (hF _) ?_
        refine wpAnyT_take (i := 22) (v := ?_) (List.mem_cons_of_mem _ (List.mem_cons_self ..)) rfl (by kernel_rfl) (by kernel_rfl) (by kernel_rfl) (by kernel_rfl) (fun _ _ _ h => h) (Or.inl ⟨by kernel_rfl, by rintro w ⟨g6, g7⟩; go_simp; try with_reducible rfl⟩) (hF _) ?_
        refine wpAnyT_pure (i := 23) (v := ?_) rfl (by kernel_rfl) (by kernel_rfl) (by kernel_rfl) (by kernel_rfl) (fun _ _ _ h => h) (Or.inl ⟨by kernel_rfl, by intro w _; go_simp; try with_reducible rfl⟩) (hF _) ?_
        refine wpAnyT_pure (i := 29) (v := ?_) rfl (by kernel_rfl) (by kernel_rfl) (by kernel_rfl) (by kernel_rfl) (fun _ _ _ h => h) (Or.inl ⟨by kernel_rfl, by intro w _; go_simp; try with_reducible rfl⟩) (hF _) ?_
        refine wpAnyT_ready (rs := [30]) (by kernel_rfl) (by simp) ?_
        refine AllReadyT.cons rfl (fun K hK => ?_) AllReadyT.nil
        go_simp
        refine hK _ _ ⟨hkeep _ (hsetF _ hG) _, ?_⟩
        clear hK K
        replace hG := hsetF _ hG
        replace hF := hkeep _ hG
        have hM := W6F.two hG
        refine wpAnyT_pure (i := 31) (v := ?_) rfl (by kernel_rfl) (by kernel_rfl) (by kernel_rfl) (by kernel_rfl) (fun _ _ _ h => h) (Or.inl ⟨by kernel_rfl, by intro w _; go_simp; try with_reducible rfl⟩) (hF _) ?_
        refine wpAnyT_ready (rs := [32]) (by kernel_rfl) (by simp) ?_
        refine AllReadyT.cons rfl (fun K hK => ?_) AllReadyT.nil
        go_simp
        refine hK _ _ ⟨HoldT.second (by kernel_rfl) (hsetM _ hM _ _), ?_⟩
        clear hK K
        refine wpAnyT_pure (i := 33) (v := ?_) rfl (by kernel_rfl) (by kernel_rfl) (by kernel_rfl) (by kernel_rfl) (fun _ _ _ h => h) (Or.inl ⟨by kernel_rfl, by intro w _; go_simp; try with_reducible rfl⟩) (HoldT.second (by kernel_rfl) (hsetM _ hM _ _)) ?_
        refine wpAnyT_ready (rs := [34]) (by kernel_rfl) (by simp) ?_
        refine AllReadyT.cons rfl (fun K hK => ?_) AllReadyT.nil
        go_simp
        refine hK _ _ ⟨HoldT.second (by kernel_rfl) (hsetM _ (hsetM _ hM _ _) _ _), ?_⟩
        clear hK K
        refine wpAnyT_pure (i := 35) (v := ?_) rfl (by kernel_rfl) (by kernel_rfl) (by kernel_rfl) (by kernel_rfl) (fun _ _ _ h => h) (Or.inl ⟨by kernel_rfl, by intro w _; go_simp; try with_reducible rfl⟩) (HoldT.second (by kernel_rfl) (hsetM _ (hsetM _ hM _ _) _ _)) ?_
        refine wpAnyT_ready (rs := [36]) (by kernel_rfl) (by simp) ?_
        refine AllReadyT.cons rfl (fun K hK => ?_) AllReadyT.nil
        go_simp
        refine hK _ _ ⟨HoldT.none (by kernel_rfl), ?_⟩
        clear hK K
        refine wpAnyT_done (by kernel_rfl) ?_ _
        go_wp2_with fail
        go_meet
        have z1 := (hat w6 (Bl.refl w6)).bl (Bl.refl _).drew
        have z2 := (hbs w6 (Bl.refl w6)).drew
        rw [hZ.out] at z1 z2 ⊢
        exact ⟨z1, z2⟩
      · refine wpAnyT_take (i := 0) (v := ?_) (List.mem_cons_self ..) rfl (by kernel_rfl) (by kernel_rfl) (by kernel_rfl) (by kernel_rfl) (fun _ _ _ h => h) (Or.inl ⟨by kernel_rfl, by rintro w ⟨g0, g1, g2, g3, g4, g5, g6, g7⟩; go_simp; try with_reducible rfl⟩) (hF _) ?_
        refine wpAnyT_pure (i := 1) (v := ?_) rfl (by kernel_rfl) (by kernel_rfl) (by kernel_rfl) (by kernel_rfl) (fun _ _ _ h => h) (Or.inl ⟨by kernel_rfl, by intro w _; go_simp; try with_reducible rfl⟩) (hF _) ?_
        refine wpAnyT_pure (i := 2) (v := ?_) rfl (by kernel_rfl) (by kernel_rfl) (by kernel_rfl) (by kernel_rfl) (fun _ _ _ h => h) (Or.inl ⟨by kernel_rfl, by intro w _; go_simp; try with_reducible rfl⟩) (hF _) ?_
        refine wpAnyT_pure (i := 3) (v := ?_) rfl (by kernel_rfl) (by kernel_rfl) (by kernel_rfl) (by kernel_rfl) (fun _ _ _ h => h) (Or.inl ⟨by kernel_rfl, by intro w _; go_simp; try with_reducible rfl⟩) (hF _) ?_
        refine wpAnyT_pure (i := 4) (v := ?_) rfl (by kernel_rfl) (by kernel_rfl) (by kernel_rfl) (by kernel_rfl) (fun _ _ _ h => h) (Or.inl ⟨by kernel_rfl, by intro w _; go_simp; try with_reducible rfl⟩) (hF _) ?_
        refine wpAnyT_pure (i := 5) (v := ?_) rfl (by kernel_rfl) (by kernel_rfl) (by kernel_rfl) (by kernel_rfl) (fun _ _ _ h => h) (Or.inl ⟨by kernel_rfl, by intro w _; go_simp; try with_reducible rfl⟩) (hF _) ?_
        refine wpAnyT_pure (i := 6) (v := ?_) rfl (by kernel_rfl) (by kernel_rfl) (by kernel_rfl) (by kernel_rfl) (fun _ _ _ h => h) (Or.inl ⟨by kernel_rfl, by intro w _; go_simp; try with_reducible rfl⟩) (hF _) ?_
        refine wpAnyT_take (i := 7) (v := ?_) (List.mem_cons_self ..) rfl (by kernel_rfl) (by kernel_rfl) (by kernel_rfl) (by kernel_rfl) (fun _ _ _ h => h) (Or.inl ⟨by kernel_rfl, by rintro w ⟨g0, g1, g2, g3, g4, g5, g6, g7⟩; go_simp; try with_reducible rfl⟩) (hF _) ?_
        refine wpAnyT_pure (i := 8) (v := ?_) rfl (by kernel_rfl) (by kernel_rfl) (by kernel_rfl) (by kernel_rfl) (fun _ _ _ h => h) (Or.inl ⟨by kernel_rfl, by intro w _; go_simp; try with_reducible rfl⟩) (hF _) ?_
        refine wpAnyT_pure (i := 9) (v := ?_) rfl (by kernel_rfl) (by kernel_rfl) (by kernel_rfl) (by kernel_rfl) (fun _ _ _ h => h) (Or.inl ⟨by kernel_rfl, by intro w _; go_simp; try with_reducible rfl⟩) (hF _) ?_
        refine wpAnyT_pure (i := 10) (v := undef) rfl (by kernel_rfl) (by kernel_rfl) (by kernel_rfl) (by kernel_rfl) (fun _ _ _ h => h) (Or.inr ⟨by kernel_rfl, rfl⟩) (hF _) ?_
        refine wpAnyT_pure (i := 11) (v := undef) rfl (by kernel_rfl) (by kernel_rfl) (by kernel_rfl) (by kernel_rfl) (fun _ _ _ h => h) (Or.inr ⟨by kernel_rfl, rfl⟩) (hF _) ?_
        refine wpAnyT_pure (i := 12) (v := ?_) rfl (by kernel_rfl) (by kernel_rfl) (by kernel_rfl) (by kernel_rfl) (fun _ _ _ h => h) (Or.inl ⟨by kernel_rfl, by intro w _; go_simp; try with_reducible rfl⟩) (hF _) ?_
        refine wpAnyT_pure (i := 13) (v := ?_) rfl (by kernel_rfl) (by kernel_rfl) (by kernel_rfl) (by kernel_rfl) (fun _ _ _ h => h) (Or.inl ⟨by kernel_rfl, by intro w _; go_simp; try with_reducible rfl⟩) (hF _) ?_
        refine wpAnyT_pure (i := 14) (v := undef) rfl (by kernel_rfl) (by kernel_rfl) (by kernel_rfl) (by kernel_rfl) (fun _ _ _ h => h) (Or.inr ⟨by kernel_rfl, rfl⟩) (hF _) ?_
        refine wpAnyT_pure (i := 15) (v := undef) rfl (by kernel_rfl) (by kernel_rfl) (by kernel_rfl) (by kernel_rfl) (fun _ _ _ h => h) (Or.inr ⟨by kernel_rfl, rfl⟩) (hF _) ?_
        refine wpAnyT_pure (i := 18) (v := ?_) rfl (by kernel_rfl) (by kernel_rfl) (by kernel_rfl) (by kernel_rfl) (fun _ _ _ h => h) (Or.inl ⟨by kernel_rfl, by intro w _; go_simp; try with_reducible rfl⟩) (hF _) ?_
        refine wpAnyT_take (i := 19) (v := ?_) (List.mem_cons_self ..) rfl (by kernel_rfl) (by kernel_rfl) (by kernel_rfl) (by kernel_rfl) (fun _ _ _ h => h) (Or.inl ⟨by kernel_rfl, by rintro w ⟨g0, g1, g2, g3, g4, g5, g6, g7⟩; go_simp; try with_reducible rfl⟩) (hF _) ?_
        refine wpAnyT_pure (i := 24) (v := ?_) rfl (by kernel_rfl) (by kernel_rfl) (by kernel_rfl) (by kernel_rfl) (fun _ _ _ h => h) (Or.inl ⟨by kernel_rfl, by intro w _; go_simp; try with_reducible rfl⟩) (hF _) ?_
        refine wpAnyT_take (i := 25) (v := ?_) (List.mem_cons_self ..) rfl (by kernel_rfl) (by kernel_rfl) (by kernel_rfl) (by kernel_rfl) (fun _ _ _ h => h) (Or.inl ⟨by kernel_rfl, by rintro w ⟨g0, g1, g2, g3, g4, g5, g6, g7⟩; go_simp; try with_reducible rfl⟩) (hF _) ?_
        refine wpAnyT_pure (i := 26) (v := ?_) rfl (by kernel_rfl) (by kernel_rfl) (by kernel_rfl) (by kernel_rfl) (fun _ _ _ h => h) (Or.inl ⟨by kernel_rfl, by intro w _; go_simp; try with_reducible rfl⟩) (hF _) ?_
        refine wpAnyT_take (i := 27) (v := ?_) (List.mem_cons_of_mem _ (List.mem_cons_self ..)) rfl (by kernel_rfl) (by kernel_rfl) (by kernel_rfl) (by kernel_rfl) (fun _ _ _ h => h) (Or.inl ⟨by kernel_rfl, by rintro w ⟨g6, g7⟩; go_simp; try with_reducible rfl⟩) (hF _) ?_
        refine wpAnyT_pure (i := 28) (v := ?_) rfl (by kernel_rfl) (by kernel_rfl) (by kernel_rfl) (by kernel_rfl) (fun _ _ _ h => h) (Or.inl ⟨by kernel_rfl, by intro w _; go_simp; try with_reducible rfl⟩) (hF _) ?_
        refine wpAnyT_pure (i := 16) (v := undef) rfl (by kernel_rfl) (by kernel_rfl) (by kernel_rfl) (by kernel_rfl) (fun _ _ _ h => h) (Or.inr ⟨by kernel_rfl, rfl⟩) (hF _) ?_
        refine wpAnyT_pure (i := 17) (v := ?_) rfl (by kernel_rfl) (by kernel_rfl) (by kernel_rfl) (by kernel_rfl) (fun _ _ _ h => h) (Or.inl ⟨by kernel_rfl, by intro w _; go_simp; try with_reducible rfl⟩) (hF _) ?_
        refine wpAnyT_pure (i := 20) (v := ?_) rfl (by kernel_rfl) (by kernel_rfl) (by kernel_rfl) (by kernel_rfl) (fun _ _ _ h => h) (Or.inl ⟨by kernel_rfl, by intro w _; go_simp; try with_reducible rfl⟩) (hF _) ?_
        refine wpAnyT_pure (i := 21) (v := undef) rfl (by kernel_rfl) (by kernel_rfl) (by kernel_rfl) (by kernel_rfl) (fun _ _ _ h => h) (Or.inr ⟨by kernel_rfl, rfl⟩) (hF _) ?_
        refine wpAnyT_pure (i := 22) (v := undef) rfl (by kernel_rfl) (by kernel_rfl) (by kernel_rfl) (by kernel_rfl) (fun _ _ _ h => h) (Or.inr ⟨by kernel_rfl, rfl⟩) (hF _) ?_
        refine wpAnyT_pure (i := 23) (v := ?_) rfl (by kernel_rfl) (by kernel_rfl) (by kernel_rfl) (by kernel_rfl) (fun _ _ _ h => h) (Or.inl ⟨by kernel_rfl, by intro w _; go_simp; try with_reducible rfl⟩) (hF _) ?_
        refine wpAnyT_pure (i := 29) (v := ?_) rfl (by kernel_rfl) (by kernel_rfl) (by kernel_rfl) (by kernel_rfl) (fun _ _ _ h => h) (Or.inl ⟨by kernel_rfl, by intro w _; go_simp; try with_reducible rfl⟩) (hF _) ?_
        refine wpAnyT_ready (rs := [30]) (by kernel_rfl) (by simp) ?_
        refine AllReadyT.cons rfl (fun K hK => ?_) AllReadyT.nil
        go_simp
        refine hK _ _ ⟨hkeep _ (hsetF _ hG) _, ?_⟩
        clear hK K
        replace hG := hsetF _ hG
        replace hF := hkeep _ hG
        have hM := W6F.two hG
        refine wpAnyT_pure (i := 31) (v := ?_) rfl (by kernel_rfl) (by kernel_rfl) (by kernel_rfl) (by kernel_rfl) (fun _ _ _ h => h) (Or.inl ⟨by kernel_rfl, by intro w _; go_simp; try with_reducible rfl⟩) (hF _) ?_
        refine wpAnyT_ready (rs := [32]) (by kernel_rfl) (by simp) ?_
        refine AllReadyT.cons rfl (fun K hK => ?_) AllReadyT.nil
        go_simp
        refine hK _ _ ⟨HoldT.second (by kernel_rfl) (hsetM _ hM _ _), ?_⟩
        clear hK K
        refine wpAnyT_pure (i := 33) (v := ?_) rfl (by kernel_rfl) (by kernel_rfl) (by kernel_rfl) (by kernel_rfl) (fun _ _ _ h => h) (Or.inl ⟨by kernel_rfl, by intro w _; go_simp; try with_reducible rfl⟩) (HoldT.second (by kernel_rfl) (hsetM _ hM _ _)) ?_
        refine wpAnyT_ready (rs := [34]) (by kernel_rfl) (by simp) ?_
        refine AllReadyT.cons rfl (fun K hK => ?_) AllReadyT.nil
        go_simp
        refine hK _ _ ⟨HoldT.second (by kernel_rfl) (hsetM _ (hsetM _ hM _ _) _ _), ?_⟩
        clear hK K
        refine wpAnyT_pure (i := 35) (v := ?_) rfl (by kernel_rfl) (by kernel_rfl) (by kernel_rfl) (by kernel_rfl) (fun _ _ _ h => h) (Or.inl ⟨by kernel_rfl, by intro w _; go_simp; try with_reducible rfl⟩) (HoldT.second (by kernel_rfl) (hsetM _ (hsetM _ hM _ _) _ _)) ?_
        refine wpAnyT_ready (rs := [36]) (by kernel_rfl) (by simp) ?_
        refine AllReadyT.cons rfl (fun K hK => ?_) AllReadyT.nil
        go_simp
        refine hK _ _ ⟨HoldT.none (by kernel_rfl), ?_⟩
        clear hK K
        refine wpAnyT_done (by kernel_rfl) ?_ _
        go_wp2_with fail
        go_meet
        have z1 := (hat w6 (Bl.refl w6)).bl (Bl.refl _).drew
        have z2 := (hbs w6 (Bl.refl w6)).drew
        rw [hZ.out] at z1 z2 ⊢
        exact ⟨z1, z2⟩
    · cases ry
      · cases px
        · refine wpAnyT_take (i := 0) (v := ?_) (List.mem_cons_self ..) rfl (by kernel_rfl) (by kernel_rfl) (by kernel_rfl) (by kernel_rfl) (fun _ _ _ h => h) (Or.inl ⟨by kernel_rfl, by rintro w ⟨g0, g1, g2, g3, g4, g5, g6, g7⟩; go_simp; try with_reducible rfl⟩) (hF _) ?_
          refine wpAnyT_pure (i := 1) (v := ?_) rfl (by kernel_rfl) (by kernel_rfl) (by kernel_rfl) (by kernel_rfl) (fun _ _ _ h => h) (Or.inl ⟨by kernel_rfl, by intro w _; go_simp; try with_reducible rfl⟩) (hF _) ?_
          refine wpAnyT_pure (i := 2) (v := ?_) rfl (by kernel_rfl) (by kernel_rfl) (by kernel_rfl) (by kernel_rfl) (fun _ _ _ h => h) (Or.inl ⟨by kernel_rfl, by intro w _; go_simp; try with_reducible rfl⟩) (hF _) ?_
          refine wpAnyT_pure (i := 3) (v := ?_) rfl (by kernel_rfl) (by kernel_rfl) (by kernel_rfl) (by kernel_rfl) (fun _ _ _ h => h) (Or.inl ⟨by kernel_rfl, by intro w _; go_simp; try with_reducible rfl⟩) (hF _) ?_
          refine wpAnyT_pure (i := 4) (v := ?_) rfl (by kernel_rfl) (by kernel_rfl) (by kernel_rfl) (by kernel_rfl) (fun _ _ _ h => h) (Or.inl ⟨by kernel_rfl, by intro w _; go_simp; try with_reducible rfl⟩) (hF _) ?_
          refine wpAnyT_pure (i := 5) (v := ?_) rfl (by kernel_rfl) (by kernel_rfl) (by kernel_rfl) (by kernel_rfl) (fun _ _ _ h => h) (Or.inl ⟨by kernel_rfl, by intro w _; go_simp; try with_reducible rfl⟩) (hF _) ?_
          refine wpAnyT_pure (i := 6) (v := ?_) rfl (by kernel_rfl) (by kernel_rfl) (by kernel_rfl) (by kernel_rfl) (fun _ _ _ h => h) (Or.inl ⟨by kernel_rfl, by intro w _; go_simp; try with_reducible rfl⟩) (hF _) ?_
          refine wpAnyT_take (i := 7) (v := ?_) (List.mem_cons_self ..) rfl (by kernel_rfl) (by kernel_rfl) (by kernel_rfl) (by kernel_rfl) (fun _ _ _ h => h) (Or.inl ⟨by kernel_rfl, by rintro w ⟨g0, g1, g2, g3, g4, g5, g6, g7⟩; go_simp; try with_reducible rfl⟩) (hF _) ?_
          refine wpAnyT_pure (i := 8) (v := ?_) rfl (by kernel_rfl) (by kernel_rfl) (by kernel_rfl) (by kernel_rfl) (fun _ _ _ h => h) (Or.inl ⟨by kernel_rfl, by intro w _; go_simp; try with_reducible rfl⟩) (hF _) ?_
          refine wpAnyT_pure (i := 9) (v := ?_) rfl (by kernel_rfl) (by kernel_rfl) (by kernel_rfl) (by kernel_rfl) (fun _ _ _ h => h) (Or.inl ⟨by kernel_rfl, by intro w _; go_simp; try with_reducible rfl⟩) (hF _) ?_
          refine wpAnyT_pure (i := 10) (v := ?_) rfl (by kernel_rfl) (by kernel_rfl) (by kernel_rfl) (by kernel_rfl) (fun _ _ _ h => h) (Or.inl ⟨by kernel_rfl, by intro w _; go_simp; try with_reducible rfl⟩) (hF _) ?_
          refine wpAnyT_take (i := 11) (v := ?_) (List.mem_cons_self ..) rfl (by kernel_rfl) (by kernel_rfl) (by kernel_rfl) (by kernel_rfl) (fun _ _ _ h => h) (Or.inl ⟨by kernel_rfl, by rintro w ⟨g0, g1, g2, g3, g4, g5, g6, g7⟩; go_simp; try with_reducible rfl⟩) (hF _) ?_
          refine wpAnyT_pure (i := 12) (v := ?_) rfl (by kernel_rfl) (by kernel_rfl) (by kernel_rfl) (by kernel_rfl) (fun _ _ _ h => h) (Or.inl ⟨by kernel_rfl, by intro w _; go_simp; try with_reducible rfl⟩) (hF _) ?_
          refine wpAnyT_pure (i := 13) (v := ?_) rfl (by kernel_rfl) (by kernel_rfl) (by kernel_rfl) (by kernel_rfl) (fun _ _ _ h => h) (Or.inl ⟨by kernel_rfl, by intro w _; go_simp; try with_reducible rfl⟩) (hF _) ?_
          refine wpAnyT_pure (i := 14) (v := undef) rfl (by kernel_rfl) (by kernel_rfl) (by kernel_rfl) (by kernel_rfl) (fun _ _ _ h => h) (Or.inr ⟨by kernel_rfl, rfl⟩) (hF _) ?_
          refine wpAnyT_pure (i := 15) (v := undef) rfl (by kernel_rfl) (by kernel_rfl) (by kernel_rfl) (by kernel_rfl) (fun _ _ _ h => h) (Or.inr ⟨by kernel_rfl, rfl⟩) (hF _) ?_
          refine wpAnyT_pure (i := 18) (v := ?_) rfl (by kernel_rfl) (by kernel_rfl) (by kernel_rfl) (by kernel_rfl) (fun _ _ _ h => h) (Or.inl ⟨by kernel_rfl, by intro w _; go_simp; try with_reducible rfl⟩) (hF _) ?_
          refine wpAnyT_take (i := 19) (v := ?_) (List.mem_cons_self ..) rfl (by kernel_rfl) (by kernel_rfl) (by kernel_rfl) (by kernel_rfl) (fun _ _ _ h => h) (Or.inl ⟨by kernel_rfl, by rintro w ⟨g0, g1, g2, g3, g4, g5, g6, g7⟩; go_simp; try with_reducible rfl⟩) (hF _) ?_
          refine wpAnyT_pure (i := 24) (v := ?_) rfl (by kernel_rfl) (by kernel_rfl) (by kernel_rfl) (by kernel_rfl) (fun _ _ _ h => h) (Or.inl ⟨by kernel_rfl, by intro w _; go_simp; try with_reducible rfl⟩) (hF _) ?_
          refine wpAnyT_take (i := 25) (v := ?_) (List.mem_cons_self ..) rfl (by kernel_rfl) (by kernel_rfl) (by kernel_rfl) (by kernel_rfl) (fun _ _ _ h => h) (Or.inl ⟨by kernel_rfl, by rintro w ⟨g0, g1, g2, g3, g4, g5, g6, g7⟩; go_simp; try with_reducible rfl⟩) (hF _) ?_
          refine wpAnyT_pure (i := 26) (v := ?_) rfl (by kernel_rfl) (by kernel_rfl) (by kernel_rfl) (by kernel_rfl) (fun _ _ _ h => h) (Or.inl ⟨by kernel_rfl, by intro w _; go_simp; try with_reducible rfl⟩) (hF _) ?_
          refine wpAnyT_take (i := 27) (v := ?_) (List.mem_cons_of_mem _ (List.mem_cons_self ..)) rfl (by kernel_rfl) (by kernel_rfl) (by kernel_rfl) (by kernel_rfl) (fun _ _ _ h => h) (Or.inl ⟨by kernel_rfl, by rintro w ⟨g6, g7⟩; go_simp; try with_reducible rfl⟩) (hF _) ?_
          refine wpAnyT_pure (i := 28) (v := ?_) rfl (by kernel_rfl) (by kernel_rfl) (by kernel_rfl) (by kernel_rfl) (fun _ _ _ h => h) (Or.inl ⟨by kernel_rfl, by intro w _; go_simp; try with_reducible rfl⟩) (hF _) ?_
          refine wpAnyT_pure (i := 16) (v := undef) rfl (by kernel_rfl) (by kernel_rfl) (by kernel_rfl) (by kernel_rfl) (fun _ _ _ h => h) (Or.inr ⟨by kernel_rfl, rfl⟩) (hF _) ?_
          refine wpAnyT_pure (i := 17) (v := ?_) rfl (by kernel_rfl) (by kernel_rfl) (by kernel_rfl) (by kernel_rfl) (fun _ _ _ h => h) (Or.inl ⟨by kernel_rfl, by intro w _; go_simp; try with_reducible rfl⟩) (hF _) ?_
          refine wpAnyT_pure (i := 20) (v := ?_) rfl (by kernel_rfl) (by kernel_rfl) (by kernel_rfl) (by kernel_rfl) (fun _ _ _ h => h) (Or.inl ⟨by kernel_rfl, by intro w _; go_simp; try with_reducible rfl⟩) (hF _) ?_
          refine wpAnyT_pure (i := 21) (v := ?_) rfl (by kernel_rfl) (by kernel_rfl) (by kernel_rfl) (by kernel_rfl) (fun _ _ _ h => h) (Or.inl ⟨by kernel_rfl, by intro w _; go_simp; try with_reducible rfl⟩) (hF _) ?_
          refine wpAnyT_take (i := 22) (v := ?_) (List.mem_cons_of_mem _ (List.mem_cons_self ..)) rfl (by kernel_rfl) (by kernel_rfl) (by kernel_rfl) (by kernel_rfl) (fun _ _ _ h => h) (Or.inl ⟨by kernel_rfl, by rintro w ⟨g6, g7⟩; go_simp; try with_reducible rfl⟩) (hF _) ?_
          refine wpAnyT_pure (i := 23) (v := ?_) rfl (by kernel_rfl) (by kernel_rfl) (by kernel_rfl) (by kernel_rfl) (fun _ _ _ h => h) (Or.inl ⟨by kernel_rfl, by intro w _; go_simp; try with_reducible rfl⟩) (hF _) ?_
          refine wpAnyT_pure (i := 29) (v := ?_) rfl (by kernel_rfl) (by kernel_rfl) (by kernel_rfl) (by kernel_rfl) (fun _ _ _ h => h) (Or.inl ⟨by kernel_rfl, by intro w _; go_simp; try with_reducible rfl⟩) (hF _) ?_
          refine wpAnyT_ready (rs := [30]) (by kernel_rfl) (by simp) ?_
          refine AllReadyT.cons rfl (fun K hK => ?_) AllReadyT.nil
          go_simp
          refine hK _ _ ⟨hkeep _ (hsetF _ hG) _, ?_⟩
          clear hK K
          replace hG := hsetF _ hG
          replace hF := hkeep _ hG
          have hM := W6F.two hG
          refine wpAnyT_pure (i := 31) (v := ?_) rfl (by kernel_rfl) (by kernel_rfl) (by kernel_rfl) (by kernel_rfl) (fun _ _ _ h => h) (Or.inl ⟨by kernel_rfl, by intro w _; go_simp; try with_reducible rfl⟩) (hF _) ?_
          refine wpAnyT_ready (rs := [32]) (by kernel_rfl) (by simp) ?_
          refine AllReadyT.cons rfl (fun K hK => ?_) AllReadyT.nil
          go_simp
          refine hK _ _ ⟨HoldT.second (by kernel_rfl) (hsetM _ hM _ _), ?_⟩
          clear hK K
          refine wpAnyT_pure (i := 33) (v := ?_) rfl (by kernel_rfl) (by kernel_rfl) (by kernel_rfl) (by kernel_rfl) (fun _ _ _ h => h) (Or.inl ⟨by kernel_rfl, by intro w _; go_simp; try with_reducible rfl⟩) (HoldT.second (by kernel_rfl) (hsetM _ hM _ _)) ?_
          refine wpAnyT_ready (rs := [34]) (by kernel_rfl) (by simp) ?_
          refine AllReadyT.cons rfl (fun K hK => ?_) AllReadyT.nil
          go_simp
          refine hK _ _ ⟨HoldT.second (by kernel_rfl) (hsetM _ (hsetM _ hM _ _) _ _), ?_⟩
          clear hK K
          refine wpAnyT_pure (i := 35) (v := ?_) rfl (by kernel_rfl) (by kernel_rfl) (by kernel_rfl) (by kernel_rfl) (fun _ _ _ h => h) (Or.inl ⟨by kernel_rfl, by intro w _; go_simp; try with_reducible rfl⟩) (HoldT.second (by kernel_rfl) (hsetM _ (hsetM _ hM _ _) _ _)) ?_
          refine wpAnyT_ready (rs := [36]) (by kernel_rfl) (by simp) ?_
          refine AllReadyT.cons rfl (fun K hK => ?_) AllReadyT.nil
          go_simp
          refine hK _ _ ⟨HoldT.none (by kernel_rfl), ?_⟩
          clear hK K
          refine wpAnyT_done (by kernel_rfl) ?_ _
          go_wp2_with fail
          go_meet
          have z1 := (hat w6 (Bl.refl w6)).bl (Bl.refl _).drew
          have z2 := (hbs w6 (Bl.refl w6)).drew
          rw [hZ.out] at z1 z2 ⊢
          exact ⟨z1, z2⟩
        · refine wpAnyT_take (i := 0) (v := ?_) (List.mem_cons_self ..) rfl (by kernel_rfl) (by kernel_rfl) (by kernel_rfl) (by kernel_rfl) (fun _ _ _ h => h) (Or.inl ⟨by kernel_rfl, by rintro w ⟨g0, g1, g2, g3, g4, g5, g6, g7⟩; go_simp; try with_reducible rfl⟩) (hF _) ?_
          refine wpAnyT_pure (i := 1) (v := ?_) rfl (by kernel_rfl) (by kernel_rfl) (by kernel_rfl) (by kernel_rfl) (fun _ _ _ h => h) (Or.inl ⟨by kernel_rfl, by intro w _; go_simp; try with_reducible rfl⟩) (hF _) ?_
          refine wpAnyT_pure (i := 2) (v := ?_) rfl (by kernel_rfl) (by kernel_rfl) (by kernel_rfl) (by kernel_rfl) (fun _ _ _ h => h) (Or.inl ⟨by kernel_rfl, by intro w _; go_simp; try with_reducible rfl⟩) (hF _) ?_
          refine wpAnyT_pure (i := 3) (v := ?_) rfl (by kernel_rfl) (by kernel_rfl) (by kernel_rfl) (by kernel_rfl) (fun _ _ _ h => h) (Or.inl ⟨by kernel_rfl, by intro w _; go_simp; try with_reducible rfl⟩) (hF _) ?_
          refine wpAnyT_pure (i := 4) (v := ?_) rfl (by kernel_rfl) (by kernel_rfl) (by kernel_rfl) (by kernel_rfl) (fun _ _ _ h => h) (Or.inl ⟨by kernel_rfl, by intro w _; go_simp; try with_reducible rfl⟩) (hF _) ?_
          refine wpAnyT_pure (i := 5) (v := ?_) rfl (by kernel_rfl) (by kernel_rfl) (by kernel_rfl) (by kernel_rfl) (fun _ _ _ h => h) (Or.inl ⟨by kernel_rfl, by intro w _; go_simp; try with_reducible rfl⟩) (hF _) ?_
          refine wpAnyT_pure (i := 6) (v := ?_) rfl (by kernel_rfl) (by kernel_rfl) (by kernel_rfl) (by kernel_rfl) (fun _ _ _ h => h) (Or.inl ⟨by kernel_rfl, by intro w _; go_simp; try with_reducible rfl⟩) (hF _) ?_
          refine wpAnyT_take (i := 7) (v := ?_) (List.mem_cons_self ..) rfl (by kernel_rfl) (by kernel_rfl) (by kernel_rfl) (by kernel_rfl) (fun _ _ _ h => h) (Or.inl ⟨by kernel_rfl, by rintro w ⟨g0, g1, g2, g3, g4, g5, g6, g7⟩; go_simp; try with_reducible rfl⟩) (hF _) ?_
          refine wpAnyT_pure (i := 8) (v := ?_) rfl (by kernel_rfl) (by kernel_rfl) (by kernel_rfl) (by kernel_rfl) (fun _ _ _ h => h) (Or.inl ⟨by kernel_rfl, by intro w _; go_simp; try with_reducible rfl⟩) (hF _) ?_
          refine wpAnyT_pure (i := 9) (v := ?_) rfl (by kernel_rfl) (by kernel_rfl) (by kernel_rfl) (by kernel_rfl) (fun _ _ _ h => h) (Or.inl ⟨by kernel_rfl, by intro w _; go_simp; try with_reducible rfl⟩) (hF _) ?_
          refine wpAnyT_pure (i := 10) (v := ?_) rfl (by kernel_rfl) (by kernel_rfl) (by kernel_rfl) (by kernel_rfl) (fun _ _ _ h => h) (Or.inl ⟨by kernel_rfl, by intro w _; go_simp; try with_reducible rfl⟩) (hF _) ?_
          refine wpAnyT_take (i := 11) (v := ?_) (List.mem_cons_self ..) rfl (by kernel_rfl) (by kernel_rfl) (by kernel_rfl) (by kernel_rfl) (fun _ _ _ h => h) (Or.inl ⟨by kernel_rfl, by rintro w ⟨g0, g1, g2, g3, g4, g5, g6, g7⟩; go_simp; try with_reducible rfl⟩) (hF _) ?_
          refine wpAnyT_pure (i := 12) (v := ?_) rfl (by kernel_rfl) (by kernel_rfl) (by kernel_rfl) (by kernel_rfl) (fun _ _ _ h => h) (Or.inl ⟨by kernel_rfl, by intro w _; go_simp; try with_reducible rfl⟩) (hF _) ?_
          refine wpAnyT_pure (i := 13) (v := ?_) rfl (by kernel_rfl) (by kernel_rfl) (by kernel_rfl) (by kernel_rfl) (fun _ _ _ h => h) (Or.inl ⟨by kernel_rfl, by intro w _; go_simp; try with_reducible rfl⟩) (hF _) ?_
          refine wpAnyT_pure (i := 14) (v := undef) rfl (by kernel_rfl) (by kernel_rfl) (by kernel_rfl) (by kernel_rfl) (fun _ _ _ h => h) (Or.inr ⟨by kernel_rfl, rfl⟩) (hF _) ?_
          refine wpAnyT_pure (i := 15) (v := undef) rfl (by kernel_rfl) (by kernel_rfl) (by kernel_rfl) (by kernel_rfl) (fun _ _ _ h => h) (Or.inr ⟨by kernel_rfl, rfl⟩) (hF _) ?_
          refine wpAnyT_pure (i := 18) (v := ?_) rfl (by kernel_rfl) (by kernel_rfl) (by kernel_rfl) (by kernel_rfl) (fun _ _ _ h => h) (Or.inl ⟨by kernel_rfl, by intro w _; go_simp; try with_reducible rfl⟩) (hF _) ?_
          refine wpAnyT_take (i := 19) (v := ?_) (List.mem_cons_self ..) rfl (by kernel_rfl) (by kernel_rfl) (by kernel_rfl) (by kernel_rfl) (fun _ _ _ h => h) (Or.inl ⟨by kernel_rfl, by rintro w ⟨g0, g1, g2, g3, g4, g5, g6, g7⟩; go_simp; try with_reducible rfl⟩) (hF _) ?_
          refine wpAnyT_pure (i := 24) (v := ?_) rfl (by kernel_rfl) (by kernel_rfl) (by kernel_rfl) (by kernel_rfl) (fun _ _ _ h => h) (Or.inl ⟨by kernel_rfl, by intro w _; go_simp; try with_reducible rfl⟩) (hF _) ?_
          refine wpAnyT_take (i := 25) (v := ?_) (List.mem_cons_self ..) rfl (by kernel_rfl) (by kernel_rfl) (by kernel_rfl) (by kernel_rfl) (fun _ _ _ h => h) (Or.inl ⟨by kernel_rfl, by rintro w ⟨g0, g1, g2, g3, g4, g5, g6, g7⟩; go_simp; try with_reducible rfl⟩) (hF _) ?_
          refine wpAnyT_pure (i := 26) (v := ?_) rfl (by kernel_rfl) (by kernel_rfl) (by kernel_rfl) (by kernel_rfl) (fun _ _ _ h => h) (Or.inl ⟨by kernel_rfl, by intro w _; go_simp; try with_reducible rfl⟩) (hF _) ?_
          refine wpAnyT_take (i := 27) (v := ?_) (List.mem_cons_of_mem _ (List.mem_cons_self ..)) rfl (by kernel_rfl) (by kernel_rfl) (by kernel_rfl) (by kernel_rfl) (fun _ _ _ h => h) (Or.inl ⟨by kernel_rfl, by rintro w ⟨g6, g7⟩; go_simp; try with_reducible rfl⟩) (hF _) ?_
          refine wpAnyT_pure (i := 28) (v := ?_) rfl (by kernel_rfl) (by kernel_rfl) (by kernel_rfl) (by kernel_rfl) (fun _ _ _ h => h) (Or.inl ⟨by kernel_rfl, by intro w _; go_simp; try with_reducible rfl⟩) (hF _) ?_
          refine wpAnyT_pure (i := 16) (v := undef) rfl (by kernel_rfl) (by kernel_rfl) (by kernel_rfl) (by kernel_rfl) (fun _ _ _ h => h) (Or.inr ⟨by kernel_rfl, rfl⟩) (hF _) ?_
          refine wpAnyT_pure (i := 17) (v := ?_) rfl (by kernel_rfl) (by kernel_rfl) (by kernel_rfl) (by kernel_rfl) (fun _ _ _ h => h) (Or.inl ⟨by kernel_rfl, by intro w _; go_simp; try with_reducible rfl⟩) (hF _) ?_
          refine wpAnyT_pure (i := 20) (v := ?_) rfl (by kernel_rfl) (by kernel_rfl) (by kernel_rfl) (by kernel_rfl) (fun _ _ _ h => h) (Or.inl ⟨by kernel_rfl, by intro w _; go_simp; try with_reducible rfl⟩) (hF _) ?_
          refine wpAnyT_pure (i := 21) (v := undef) rfl (by kernel_rfl) (by kernel_rfl) (by kernel_rfl) (by kernel_rfl) (fun _ _ _ h => h) (Or.inr ⟨by kernel_rfl, rfl⟩) (hF _) ?_
          refine wpAnyT_pure (i := 22) (v := undef) rfl (by kernel_rfl) (by kernel_rfl) (by kernel_rfl) (by kernel_rfl) (fun _ _ _ h => h) (Or.inr ⟨by kernel_rfl, rfl⟩) (hF _) ?_
          refine wpAnyT_pure (i := 23) (v := ?_) rfl (by kernel_rfl) (by kernel_rfl) (by kernel_rfl) (by kernel_rfl) (fun _ _ _ h => h) (Or.inl ⟨by kernel_rfl, by intro w _; go_simp; try with_reducible rfl⟩) (hF _) ?_
          refine wpAnyT_pure (i := 29) (v := ?_) rfl (by kernel_rfl) (by kernel_rfl) (by kernel_rfl) (by kernel_rfl) (fun _ _ _ h => h) (Or.inl ⟨by kernel_rfl, by intro w _; go_simp; try with_reducible rfl⟩) (hF _) ?_
          refine wpAnyT_ready (rs := [30]) (by kernel_rfl) (by simp) ?_
          refine AllReadyT.cons rfl (fun K hK => ?_) AllReadyT.nil
          go_simp
          refine hK _ _ ⟨hkeep _ (hsetF _ hG) _, ?_⟩
          clear hK K
          replace hG := hsetF _ hG
          replace hF := hkeep _ hG
          have hM := W6F.two hG
          refine wpAnyT_pure (i := 31) (v := ?_) rfl (by kernel_rfl) (by kernel_rfl) (by kernel_rfl) (by kernel_rfl) (fun _ _ _ h => h) (Or.inl ⟨by kernel_rfl, by intro w _; go_simp; try with_reducible rfl⟩) (hF _) ?_
          refine wpAnyT_ready (rs := [32]) (by kernel_rfl) (by simp) ?_
          refine AllReadyT.cons rfl (fun K hK => ?_) AllReadyT.nil
          go_simp
          refine hK _ _ ⟨HoldT.second (by kernel_rfl) (hsetM _ hM _ _), ?_⟩
          clear hK K
          refine wpAnyT_pure (i := 33) (v := ?_) rfl (by kernel_rfl) (by kernel_rfl) (by kernel_rfl) (by kernel_rfl) (fun _ _ _ h => h) (Or.inl ⟨by kernel_rfl, by intro w _; go_simp; try with_reducible rfl⟩) (HoldT.second (by kernel_rfl) (hsetM _ hM _ _)) ?_
          refine wpAnyT_ready (rs := [34]) (by kernel_rfl) (by simp) ?_
          refine AllReadyT.cons rfl (fun K hK => ?_) AllReadyT.nil
          go_simp
          refine hK _ _ ⟨HoldT.second (by kernel_rfl) (hsetM _ (hsetM _ hM _ _) _ _), ?_⟩
          clear hK K
          refine wpAnyT_pure (i := 35) (v := ?_) rfl (by kernel_rfl) (by kernel_rfl) (by kernel_rfl) (by kernel_rfl) (fun _ _ _ h => h) (Or.inl ⟨by kernel_rfl, by intro w _; go_simp; try with_reducible rfl⟩) (HoldT.second (by kernel_rfl) (hsetM _ (hsetM _ hM _ _) _ _)) ?_
          refine wpAnyT_ready (rs := [36]) (by kernel_rfl) (by simp) ?_
          refine AllReadyT.cons rfl (fun K hK => ?_) AllReadyT.nil
          go_simp
          refine hK _ _ ⟨HoldT.none (by kernel_rfl), ?_⟩
          clear hK K
          refine wpAnyT_done (by kernel_rfl) ?_ _
          go_wp2_with fail
          go_meet
          have z1 := (hat w6 (Bl.refl w6)).bl (Bl.refl _).drew
          have z2 := (hbs w6 (Bl.refl w6)).drew
          rw [hZ.out] at z1 z2 ⊢
          exact ⟨z1, z2⟩
      · cases px
        · refine wpAnyT_take (i := 0) (v := ?_) (List.mem_cons_self ..) rfl (by kernel_rfl) (by kernel_rfl) (by kernel_rfl) (by kernel_rfl) (fun _ _ _ h => h) (Or.inl ⟨by kernel_rfl, by rintro w ⟨g0, g1, g2, g3, g4, g5, g6, g7⟩; go_simp; try with_reducible rfl⟩) (hF _) ?_
          refine wpAnyT_pure (i := 1) (v := ?_) rfl (by kernel_rfl) (by kernel_rfl) (by kernel_rfl) (by kernel_rfl) (fun _ _ _ h => h) (Or.inl ⟨by kernel_rfl, by intro w _; go_simp; try with_reducible rfl⟩) (hF _) ?_
          refine wpAnyT_pure (i := 2) (v := ?_) rfl (by kernel_rfl) (by kernel_rfl) (by kernel_rfl) (by kernel_rfl) (fun _ _ _ h => h) (Or.inl ⟨by kernel_rfl, by intro w _; go_simp; try with_reducible rfl⟩) (hF _) ?_
          refine wpAnyT_pure (i := 3) (v := ?_) rfl (by kernel_rfl) (by kernel_rfl) (by kernel_rfl) (by kernel_rfl) (fun _ _ _ h => h) (Or.inl ⟨by kernel_rfl, by intro w _; go_simp; try with_reducible rfl⟩) (hF _) ?_
          refine wpAnyT_pure (i := 4) (v := ?_) rfl (by kernel_rfl) (by kernel_rfl) (by kernel_rfl) (by kernel_rfl) (fun _ _ _ h => h) (Or.inl ⟨by kernel_rfl, by intro w _; go_simp; try with_reducible rfl⟩) (hF _) ?_
          refine wpAnyT_pure (i := 5) (v := ?_) rfl (by kernel_rfl) (by kernel_rfl) (by kernel_rfl) (by kernel_rfl) (fun _ _ _ h => h) (Or.inl ⟨by kernel_rfl, by intro w _; go_simp; try with_reducible rfl⟩) (hF _) ?_
          refine wpAnyT_pure (i := 6) (v := ?_) rfl (by kernel_rfl) (by kernel_rfl) (by kernel_rfl) (by kernel_rfl) (fun _ _ _ h => h) (Or.inl ⟨by kernel_rfl, by intro w _; go_simp; try with_reducible rfl⟩) (hF _) ?_
          refine wpAnyT_take (i := 7) (v := ?_) (List.mem_cons_self ..) rfl (by kernel_rfl) (by kernel_rfl) (by kernel_rfl) (by kernel_rfl) (fun _ _ _ h => h) (Or.inl ⟨by kernel_rfl, by rintro w ⟨g0, g1, g2, g3, g4, g5, g6, g7⟩; go_simp; try with_reducible rfl⟩) (hF _) ?_
          refine wpAnyT_pure (i := 8) (v := ?_) rfl (by kernel_rfl) (by kernel_rfl) (by kernel_rfl) (by kernel_rfl) (fun _ _ _ h => h) (Or.inl ⟨by kernel_rfl, by intro w _; go_simp; try with_reducible rfl⟩) (hF _) ?_
          refine wpAnyT_pure (i := 9) (v := ?_) rfl (by kernel_rfl) (by kernel_rfl) (by kernel_rfl) (by kernel_rfl) (fun _ _ _ h => h) (Or.inl ⟨by kernel_rfl, by intro w _; go_simp; try with_reducible rfl⟩) (hF _) ?_
          refine wpAnyT_pure (i := 10) (v := ?_) rfl (by kernel_rfl) (by kernel_rfl) (by kernel_rfl) (by kernel_rfl) (fun _ _ _ h => h) (Or.inl ⟨by kernel_rfl, by intro w _; go_simp; try with_reducible rfl⟩) (hF _) ?_
          refine wpAnyT_take (i := 11) (v := ?_) (List.mem_cons_self ..) rfl (by kernel_rfl) (by kernel_rfl) (by kernel_rfl) (by kernel_rfl) (fun _ _ _ h => h) (Or.inl ⟨by kernel_rfl, by rintro w ⟨g0, g1, g2, g3, g4, g5, g6, g7⟩; go_simp; try with_reducible rfl⟩) (hF _) ?_
          refine wpAnyT_pure (i := 12) (v := ?_) rfl (by kernel_rfl) (by kernel_rfl) (by kernel_rfl) (by kernel_rfl) (fun _ _ _ h => h) (Or.inl ⟨by kernel_rfl, by intro w _; go_simp; try with_reducible rfl⟩) (hF _) ?_
          refine wpAnyT_pure (i := 13) (v := ?_) rfl (by kernel_rfl) (by kernel_rfl) (by kernel_rfl) (by kernel_rfl) (fun _ _ _ h => h) (Or.inl ⟨by kernel_rfl, by intro w _; go_simp; try with_reducible rfl⟩) (hF _) ?_
          refine wpAnyT_pure (i := 14) (v := ?_) rfl (by kernel_rfl) (by kernel_rfl) (by kernel_rfl) (by kernel_rfl) (fun _ _ _ h => h) (Or.inl ⟨by kernel_rfl, by intro w _; go_simp; try with_reducible rfl⟩) (hF _) ?_
          refine wpAnyT_take (i := 15) (v := ?_) (List.mem_cons_self ..) rfl (by kernel_rfl) (by kernel_rfl) (by kernel_rfl) (by kernel_rfl) (fun _ _ _ h => h) (Or.inl ⟨by kernel_rfl, by rintro w ⟨g0, g1, g2, g3, g4, g5, g6, g7⟩; go_simp; try with_reducible rfl⟩) (hF _) ?_
          refine wpAnyT_pure (i := 18) (v := ?_) rfl (by kernel_rfl) (by kernel_rfl) (by kernel_rfl) (by kernel_rfl) (fun _ _ _ h => h) (Or.inl ⟨by kernel_rfl, by intro w _; go_simp; try with_reducible rfl⟩) (hF _) ?_
          refine wpAnyT_take (i := 19) (v := ?_) (List.mem_cons_self ..) rfl (by kernel_rfl) (by kernel_rfl) (by kernel_rfl) (by kernel_rfl) (fun _ _ _ h => h) (Or.inl ⟨by kernel_rfl, by rintro w ⟨g0, g1, g2, g3, g4, g5, g6, g7⟩; go_simp; try with_reducible rfl⟩) (hF _) ?_
          refine wpAnyT_pure (i := 24) (v := ?_) rfl (by kernel_rfl) (by kernel_rfl) (by kernel_rfl) (by kernel_rfl) (fun _ _ _ h => h) (Or.inl ⟨by kernel_rfl, by intro w _; go_simp; try with_reducible rfl⟩) (hF _) ?_
          refine wpAnyT_take (i := 25) (v := ?_) (List.mem_cons_self ..) rfl (by kernel_rfl) (by kernel_rfl) (by kernel_rfl) (by kernel_rfl) (fun _ _ _ h => h) (Or.inl ⟨by kernel_rfl, by rintro w ⟨g0, g1, g2, g3, g4, g5, g6, g7⟩; go_simp; try with_reducible rfl⟩) (hF _) ?_
          refine wpAnyT_pure (i := 26) (v := ?_) rfl (by kernel_rfl) (by kernel_rfl) (by kernel_rfl) (by kernel_rfl) (fun _ _ _ h => h) (Or.inl ⟨by kernel_rfl, by intro w _; go_simp; try with_reducible rfl⟩) (hF _) ?_
          refine wpAnyT_take (i := 27) (v := ?_) (List.mem_cons_of_mem _ (List.mem_cons_self ..)) rfl (by kernel_rfl) (by kernel_rfl) (by kernel_rfl) (by kernel_rfl) (fun _ _ _ h => h) (Or.inl ⟨by kernel_rfl, by rintro w ⟨g6, g7⟩; go_simp; try with_reducible rfl⟩) (hF _) ?_
          refine wpAnyT_pure (i := 28) (v := ?_) rfl (by kernel_rfl) (by kernel_rfl) (by kernel_rfl) (by kernel_rfl) (fun _ _ _ h => h) (Or.inl ⟨by kernel_rfl, by intro w _; go_simp; try with_reducible rfl⟩) (hF _) ?_
          refine wpAnyT_ready (rs := [16]) (by kernel_rfl) (by simp) ?_
          refine AllReadyT.cons rfl (fun K hK => ?_) AllReadyT.nil
          go_simp
          go_wp2_with (go_at_call 127; refine (hwh.out _ (Bl.refl w6).drew).mono ?_; rintro e w7 ⟨rfl, hb7⟩)
          try (refine hK _ _ ?_)
          try clear hK K
          have hb67 := (Bl.refl w6).drew.trans hb7
          have atc := at6.out.bl hb67
          obtain ⟨u0, u1, u2, u3, u4, u5, u6, u7⟩ := atc.cells
          obtain ⟨r0, r1, r2, r3, r4, r5, r6, r7⟩ := atc.frozens
          have hul := atc.lt
          replace atc := hide atc
          dsimp only [blankE] at u0 u1 u2 u3 u4 u5 u6 u7
          refine ⟨hkeep _ (hG.bl hb7) _, ?_⟩
          clear x0 x1 x2 x3 x4 x5 x6 x7 f0 f1 f2 f3 f4 f5 f6 f7 hxl
          replace hG := hG.bl hb7
          replace hF := hkeep _ hG
          refine wpAnyT_pure (i := 17) (v := ?_) rfl (by kernel_rfl) (by kernel_rfl) (by kernel_rfl) (by kernel_rfl) (fun _ _ _ h => h) (Or.inl ⟨by kernel_rfl, by intro w _; go_simp; try with_reducible rfl⟩) (hF _) ?_
          refine wpAnyT_pure (i := 20) (v := ?_) rfl (by kernel_rfl) (by kernel_rfl) (by kernel_rfl) (by kernel_rfl) (fun _ _ _ h => h) (Or.inl ⟨by kernel_rfl, by intro w _; go_simp; try with_reducible rfl⟩) (hF _) ?_
          refine wpAnyT_pure (i := 21) (v := ?_) rfl (by kernel_rfl) (by kernel_rfl) (by kernel_rfl) (by kernel_rfl) (fun _ _ _ h => h) (Or.inl ⟨by kernel_rfl, by intro w _; go_simp; try with_reducible rfl⟩) (hF _) ?_
          refine wpAnyT_take (i := 22) (v := ?_) (List.mem_cons_of_mem _ (List.mem_cons_self ..)) rfl (by kernel_rfl) (by kernel_rfl) (by kernel_rfl) (by kernel_rfl) (fun _ _ _ h => h) (Or.inl ⟨by kernel_rfl, by rintro w ⟨g6, g7⟩; go_simp; try with_reducible rfl⟩) (hF _) ?_
          refine wpAnyT_pure (i := 23) (v := ?_) rfl (by kernel_rfl) (by kernel_rfl) (by kernel_rfl) (by kernel_rfl) (fun _ _ _ h => h) (Or.inl ⟨by kernel_rfl, by intro w _; go_simp; try with_reducible rfl⟩) (hF _) ?_
          refine wpAnyT_pure (i := 29) (v := ?_) rfl (by kernel_rfl) (by kernel_rfl) (by kernel_rfl) (by kernel_rfl) (fun _ _ _ h => h) (Or.inl ⟨by kernel_rfl, by intro w _; go_simp; try with_reducible rfl⟩) (hF _) ?_
          refine wpAnyT_ready (rs := [30]) (by kernel_rfl) (by simp) ?_
          refine AllReadyT.cons rfl (fun K hK => ?_) AllReadyT.nil
          go_simp
          refine hK _ _ ⟨hkeep _ (hsetF _ hG) _, ?_⟩
          clear hK K
          replace hG := hsetF _ hG
          replace hF := hkeep _ hG
          have hM := W6F.two hG
          refine wpAnyT_pure (i := 31) (v := ?_) rfl (by kernel_rfl) (by kernel_rfl) (by kernel_rfl) (by kernel_rfl) (fun _ _ _ h => h) (Or.inl ⟨by kernel_rfl, by intro w _; go_simp; try with_reducible rfl⟩) (hF _) ?_
          refine wpAnyT_ready (rs := [32]) (by kernel_rfl) (by simp) ?_
          refine AllReadyT.cons rfl (fun K hK => ?_) AllReadyT.nil
          go_simp
          refine hK _ _ ⟨HoldT.second (by kernel_rfl) (hsetM _ hM _ _), ?_⟩
          clear hK K
          refine wpAnyT_pure (i := 33) (v := ?_) rfl (by kernel_rfl) (by kernel_rfl) (by kernel_rfl) (by kernel_rfl) (fun _ _ _ h => h) (Or.inl ⟨by kernel_rfl, by intro w _; go_simp; try with_reducible rfl⟩) (HoldT.second (by kernel_rfl) (hsetM _ hM _ _)) ?_
          refine wpAnyT_ready (rs := [34]) (by kernel_rfl) (by simp) ?_
          refine AllReadyT.cons rfl (fun K hK => ?_) AllReadyT.nil
          go_simp
          refine hK _ _ ⟨HoldT.second (by kernel_rfl) (hsetM _ (hsetM _ hM _ _) _ _), ?_⟩
          clear hK K
          refine wpAnyT_pure (i := 35) (v := ?_) rfl (by kernel_rfl) (by kernel_rfl) (by kernel_rfl) (by kernel_rfl) (fun _ _ _ h => h) (Or.inl ⟨by kernel_rfl, by intro w _; go_simp; try with_reducible rfl⟩) (HoldT.second (by kernel_rfl) (hsetM _ (hsetM _ hM _ _) _ _)) ?_
          refine wpAnyT_ready (rs := [36]) (by kernel_rfl) (by simp) ?_
          refine AllReadyT.cons rfl (fun K hK => ?_) AllReadyT.nil
          go_simp
          refine hK _ _ ⟨HoldT.none (by kernel_rfl), ?_⟩
          clear hK K
          refine wpAnyT_done (by kernel_rfl) ?_ _
          go_wp2_with fail
          go_meet
          have z1 := hat w7 ((Bl.refl w6).drew.trans hb7)
          have z2 := hbs w7 ((Bl.refl w6).drew.trans hb7)
          rw [hZ.out] at z1 z2 ⊢
          exact ⟨z1, z2⟩
        · refine wpAnyT_take (i := 0) (v := ?_) (List.mem_cons_self ..) rfl (by kernel_rfl) (by kernel_rfl) (by kernel_rfl) (by kernel_rfl) (fun _ _ _ h => h) (Or.inl ⟨by kernel_rfl, by rintro w ⟨g0, g1, g2, g3, g4, g5, g6, g7⟩; go_simp; try with_reducible rfl⟩) (hF _) ?_
          refine wpAnyT_pure (i := 1) (v := ?_) rfl (by kernel_rfl) (by kernel_rfl) (by kernel_rfl) (by kernel_rfl) (fun _ _ _ h => h) (Or.inl ⟨by kernel_rfl, by intro w _; go_simp; try with_reducible rfl⟩) (hF _) ?_
          refine wpAnyT_pure (i := 2) (v := ?_) rfl (by kernel_rfl) (by kernel_rfl) (by kernel_rfl) (by kernel_rfl) (fun _ _ _ h => h) (Or.inl ⟨by kernel_rfl, by intro w _; go_simp; try with_reducible rfl⟩) (hF _) ?_
          refine wpAnyT_pure (i := 3) (v := ?_) rfl (by kernel_rfl) (by kernel_rfl) (by kernel_rfl) (by kernel_rfl) (fun _ _ _ h => h) (Or.inl ⟨by kernel_rfl, by intro w _; go_simp; try with_reducible rfl⟩) (hF _) ?_
          refine wpAnyT_pure (i := 4) (v := ?_) rfl (by kernel_rfl) (by kernel_rfl) (by kernel_rfl) (by kernel_rfl) (fun _ _ _ h => h) (Or.inl ⟨by kernel_rfl, by intro w _; go_simp; try with_reducible rfl⟩) (hF _) ?_
          refine wpAnyT_pure (i := 5) (v := ?_) rfl (by kernel_rfl) (by kernel_rfl) (by kernel_rfl) (by kernel_rfl) (fun _ _ _ h => h) (Or.inl ⟨by kernel_rfl, by intro w _; go_simp; try with_reducible rfl⟩) (hF _) ?_
          refine wpAnyT_pure (i := 6) (v := ?_) rfl (by kernel_rfl) (by kernel_rfl) (by kernel_rfl) (by kernel_rfl) (fun _ _ _ h => h) (Or.inl ⟨by kernel_rfl, by intro w _; go_simp; try with_reducible rfl⟩) (hF _) ?_
          refine wpAnyT_take (i := 7) (v := ?_) (List.mem_cons_self ..) rfl (by kernel_rfl) (by kernel_rfl) (by kernel_rfl) (by kernel_rfl) (fun _ _ _ h => h) (Or.inl ⟨by kernel_rfl, by rintro w ⟨g0, g1, g2, g3, g4, g5, g6, g7⟩; go_simp; try with_reducible rfl⟩) (hF _) ?_
          refine wpAnyT_pure (i := 8) (v := ?_) rfl (by kernel_rfl) (by kernel_rfl) (by kernel_rfl) (by kernel_rfl) (fun _ _ _ h => h) (Or.inl ⟨by kernel_rfl, by intro w _; go_simp; try with_reducible rfl⟩) (hF _) ?_
          refine wpAnyT_pure (i := 9) (v := ?_) rfl (by kernel_rfl) (by kernel_rfl) (by kernel_rfl) (by kernel_rfl) (fun _ _ _ h => h) (Or.inl ⟨by kernel_rfl, by intro w _; go_simp; try with_reducible rfl⟩) (hF _) ?_
          refine wpAnyT_pure (i := 10) (v := ?_) rfl (by kernel_rfl) (by kernel_rfl) (by kernel_rfl) (by kernel_rfl) (fun _ _ _ h => h) (Or.inl ⟨by kernel_rfl, by intro w _; go_simp; try with_reducible rfl⟩) (hF _) ?_
          refine wpAnyT_take (i := 11) (v := ?_) (List.mem_cons_self ..) rfl (by kernel_rfl) (by kernel_rfl) (by kernel_rfl) (by kernel_rfl) (fun _ _ _ h => h) (Or.inl ⟨by kernel_rfl, by rintro w ⟨g0, g1, g2, g3, g4, g5, g6, g7⟩; go_simp; try with_reducible rfl⟩) (hF _) ?_
          refine wpAnyT_pure (i := 12) (v := ?_) rfl (by kernel_rfl) (by kernel_rfl) (by kernel_rfl) (by kernel_rfl) (fun _ _ _ h => h) (Or.inl ⟨by kernel_rfl, by intro w _; go_simp; try with_reducible rfl⟩) (hF _) ?_
          refine wpAnyT_pure (i := 13) (v := ?_) rfl (by kernel_rfl) (by kernel_rfl) (by kernel_rfl) (by kernel_rfl) (fun _ _ _ h => h) (Or.inl ⟨by kernel_rfl, by intro w _; go_simp; try with_reducible rfl⟩) (hF _) ?_
          refine wpAnyT_pure (i := 14) (v := ?_) rfl (by kernel_rfl) (by kernel_rfl) (by kernel_rfl) (by kernel_rfl) (fun _ _ _ h => h) (Or.inl ⟨by kernel_rfl, by intro w _; go_simp; try with_reducible rfl⟩) (hF _) ?_
          refine wpAnyT_take (i := 15) (v := ?_) (List.mem_cons_self ..) rfl (by kernel_rfl) (by kernel_rfl) (by kernel_rfl) (by kernel_rfl) (fun _ _ _ h => h) (Or.inl ⟨by kernel_rfl, by rintro w ⟨g0, g1, g2, g3, g4, g5, g6, g7⟩; go_simp; try with_reducible rfl⟩) (hF _) ?_
          refine wpAnyT_pure (i := 18) (v := ?_) rfl (by kernel_rfl) (by kernel_rfl) (by kernel_rfl) (by kernel_rfl) (fun _ _ _ h => h) (Or.inl ⟨by kernel_rfl, by intro w _; go_simp; try with_reducible rfl⟩) (hF _) ?_
          refine wpAnyT_take (i := 19) (v := ?_) (List.mem_cons_self ..) rfl (by kernel_rfl) (by kernel_rfl) (by kernel_rfl) (by kernel_rfl) (fun _ _ _ h => h) (Or.inl ⟨by kernel_rfl, by rintro w ⟨g0, g1, g2, g3, g4, g5, g6, g7⟩; go_simp; try with_reducible rfl⟩) (hF _) ?_
          refine wpAnyT_pure (i := 24) (v := ?_) rfl (by kernel_rfl) (by kernel_rfl) (by kernel_rfl) (by kernel_rfl) (fun _ _ _ h => h) (Or.inl ⟨by kernel_rfl, by intro w _; go_simp; try with_reducible rfl⟩) (hF _) ?_
          refine wpAnyT_take (i := 25) (v := ?_) (List.mem_cons_self ..) rfl (by kernel_rfl) (by kernel_rfl) (by kernel_rfl) (by kernel_rfl) (fun _ _ _ h => h) (Or.inl ⟨by kernel_rfl, by rintro w ⟨g0, g1, g2, g3, g4, g5, g6, g7⟩; go_simp; try with_reducible rfl⟩) (hF _) ?_
          refine wpAnyT_pure (i := 26) (v := ?_) rfl (by kernel_rfl) (by kernel_rfl) (by kernel_rfl) (by kernel_rfl) (fun _ _ _ h => h) (Or.inl ⟨by kernel_rfl, by intro w _; go_simp; try with_reducible rfl⟩) (hF _) ?_
          refine wpAnyT_take (i := 27) (v := ?_) (List.mem_cons_of_mem _ (List.mem_cons_self ..)) rfl (by kernel_rfl) (by kernel_rfl) (by kernel_rfl) (by kernel_rfl) (fun _ _ _ h => h) (Or.inl ⟨by kernel_rfl, by rintro w ⟨g6, g7⟩; go_simp; try with_reducible rfl⟩) (hF _) ?_
          refine wpAnyT_pure (i := 28) (v := ?_) rfl (by kernel_rfl) (by kernel_rfl) (by kernel_rfl) (by kernel_rfl) (fun _ _ _ h => h) (Or.inl ⟨by kernel_rfl, by intro w _; go_simp; try with_reducible rfl⟩) (hF _) ?_
          refine wpAnyT_ready (rs := [16]) (by kernel_rfl) (by simp) ?_
          refine AllReadyT.cons rfl (fun K hK => ?_) AllReadyT.nil
          go_simp
          go_wp2_with (go_at_call 127; refine (hwh.out _ (Bl.refl w6).drew).mono ?_; rintro e w7 ⟨rfl, hb7⟩)
          try (refine hK _ _ ?_)
          try clear hK K
          have hb67 := (Bl.refl w6).drew.trans hb7
          have atc := at6.out.bl hb67
          obtain ⟨u0, u1, u2, u3, u4, u5, u6, u7⟩ := atc.cells
          obtain ⟨r0, r1, r2, r3, r4, r5, r6, r7⟩ := atc.frozens
          have hul := atc.lt
          replace atc := hide atc
          dsimp only [blankE] at u0 u1 u2 u3 u4 u5 u6 u7
          refine ⟨hkeep _ (hG.bl hb7) _, ?_⟩
          clear x0 x1 x2 x3 x4 x5 x6 x7 f0 f1 f2 f3 f4 f5 f6 f7 hxl
          replace hG := hG.bl hb7
          replace hF := hkeep _ hG
          refine wpAnyT_pure (i := 17) (v := ?_) rfl (by kernel_rfl) (by kernel_rfl) (by kernel_rfl) (by kernel_rfl) (fun _ _ _ h => h) (Or.inl ⟨by kernel_rfl, by intro w _; go_simp; try with_reducible rfl⟩) (hF _) ?_
          refine wpAnyT_pure (i := 20) (v := ?_) rfl (by kernel_rfl) (by kernel_rfl) (by kernel_rfl) (by kernel_rfl) (fun _ _ _ h => h) (Or.inl ⟨by kernel_rfl, by intro w _; go_simp; try with_reducible rfl⟩) (hF _) ?_
          refine wpAnyT_pure (i := 21) (v := undef) rfl (by kernel_rfl) (by kernel_rfl) (by kernel_rfl) (by kernel_rfl) (fun _ _ _ h => h) (Or.inr ⟨by kernel_rfl, rfl⟩) (hF _) ?_
          refine wpAnyT_pure (i := 22) (v := undef) rfl (by kernel_rfl) (by kernel_rfl) (by kernel_rfl) (by kernel_rfl) (fun _ _ _ h => h) (Or.inr ⟨by kernel_rfl, rfl⟩) (hF _) ?_
          refine wpAnyT_pure (i := 23) (v := ?_) rfl (by kernel_rfl) (by kernel_rfl) (by kernel_rfl) (by kernel_rfl) (fun _ _ _ h => h) (Or.inl ⟨by kernel_rfl, by intro w _; go_simp; try with_reducible rfl⟩) (hF _) ?_
          refine wpAnyT_pure (i := 29) (v := ?_) rfl (by kernel_rfl) (by kernel_rfl) (by kernel_rfl) (by kernel_rfl) (fun _ _ _ h => h) (Or.inl ⟨by kernel_rfl, by intro w _; go_simp; try with_reducible rfl⟩) (hF _) ?_
          refine wpAnyT_ready (rs := [30]) (by kernel_rfl) (by simp) ?_
          refine AllReadyT.cons rfl (fun K hK => ?_) AllReadyT.nil
          go_simp
          refine hK _ _ ⟨hkeep _ (hsetF _ hG) _, ?_⟩
          clear hK K
          replace hG := hsetF _ hG
          replace hF := hkeep _ hG
          have hM := W6F.two hG
          refine wpAnyT_pure (i := 31) (v := ?_) rfl (by kernel_rfl) (by kernel_rfl) (by kernel_rfl) (by kernel_rfl) (fun _ _ _ h => h) (Or.inl ⟨by kernel_rfl, by intro w _; go_simp; try with_reducible rfl⟩) (hF _) ?_
          refine wpAnyT_ready (rs := [32]) (by kernel_rfl) (by simp) ?_
          refine AllReadyT.cons rfl (fun K hK => ?_) AllReadyT.nil
          go_simp
          refine hK _ _ ⟨HoldT.second (by kernel_rfl) (hsetM _ hM _ _), ?_⟩
          clear hK K
          refine wpAnyT_pure (i := 33) (v := ?_) rfl (by kernel_rfl) (by kernel_rfl) (by kernel_rfl) (by kernel_rfl) (fun _ _ _ h => h) (Or.inl ⟨by kernel_rfl, by intro w _; go_simp; try with_reducible rfl⟩) (HoldT.second (by kernel_rfl) (hsetM _ hM _ _)) ?_
          refine wpAnyT_ready (rs := [34]) (by kernel_rfl) (by simp) ?_
          refine AllReadyT.cons rfl (fun K hK => ?_) AllReadyT.nil
          go_simp
          refine hK _ _ ⟨HoldT.second (by kernel_rfl) (hsetM _ (hsetM _ hM _ _) _ _), ?_⟩
          clear hK K
          refine wpAnyT_pure (i := 35) (v := ?_) rfl (by kernel_rfl) (by kernel_rfl) (by kernel_rfl) (by kernel_rfl) (fun _ _ _ h => h) (Or.inl ⟨by kernel_rfl, by intro w _; go_simp; try with_reducible rfl⟩) (HoldT.second (by kernel_rfl) (hsetM _ (hsetM _ hM _ _) _ _)) ?_
          refine wpAnyT_ready (rs := [36]) (by kernel_rfl) (by simp) ?_
          refine AllReadyT.cons rfl (fun K hK => ?_) AllReadyT.nil
          go_simp
          refine hK _ _ ⟨HoldT.none (by kernel_rfl), ?_⟩
          clear hK K
          refine wpAnyT_done (by kernel_rfl) ?_ _
          go_wp2_with fail
          go_meet
          have z1 := hat w7 ((Bl.refl w6).drew.trans hb7)
          have z2 := hbs w7 ((Bl.refl w6).drew.trans hb7)
          rw [hZ.out] at z1 z2 ⊢
          exact ⟨z1, z2⟩
  case rest =>
    obtain ⟨at7, hb7⟩ := hcut
    clear i0 i1 hil x0 x1 x2 x3 x4 x5 x6 x7 f0 f1 f2 f3 f4 f5 f6 f7 hxl y0 y1 y2 y3 y4 y5 y6 y7 hyl
    replace hL := hL.out
    replace hN := hN.out
    simp only [if_true] at hL hN
    have hp := hide fun D dc V (hD : R cEntry 0 V D (dropL H m)) => shelfPut D dc (dropL H m) Z none none 0 0 V (by omega) hD hzok (hzh.out V)
    rw [← hL, ← hN] at hp
    obtain ⟨i0, i1, -, -⟩ := at1.bl (hb12.trans (hb3.trans hb7))
    have hil := (at1.bl (hb12.trans (hb3.trans hb7))).lt
    clear hL hN
    try clear hz0
    try clear hzok
    try clear hzh
    try clear hwh
    try clear hZ
    try clear hxok
    try clear hyok
    try clear haok
    try clear hmok
    try clear hM
    try clear at5
    try clear at45
    try clear at6
    try clear at46
    try clear hck
    try clear hsm
    try clear hdl
    try clear hh
    try clear hb5
    try clear hb6
    try clear hb36
    try clear m1
    try clear m2
    try clear hwl
    try clear hbW6
    try clear at2
    try clear at3
    try clear at4
    try clear at34
    go_wp2_with fail
    refine (hdr.out _ (hbW.trans (hbW3.trans hb7))).mono ?_
    rintro e w8 ⟨D, dc, rfl, d1, d2, hD, hb8⟩
    have hb38 := hb7.trans hb8
    obtain ⟨y0, y1, y2, y3, y4, y5, y6, y7⟩ := (at7.bl hb8).cells
    have hyl := (at7.bl hb8).lt
    clear i0 i1 hil
    go_wp2_with fail
    refine (hp.out D dc w8 hD.zero).mono ?_
    rintro e w9 ⟨X9, c9, rfl, r1, r2, hX9, hb9⟩
    go_wp2_with fail
    go_ret2
    exact ⟨X9, c9, rfl, r1, r2, hX9.more (hbW.trans (hbW3.trans hb38)).size, (hbW.trans (hbW3.trans hb38)).trans hb9⟩

end Go.Proofs.YteoodmilcpmmpaaGreat

namespace Go.Proofs.YteoodmilcpmmpaaGreat

open Go.RowKit

set_option maxRecDepth 100000 in
set_option maxHeartbeats 1000000 in
theorem opContainsFunc (fn : FuncId) (ps : Array Value) (hfe : ∀ args w, (callFunc fn args).run Tryz.prog w = .ok (.enter fn args) w) (A : Option Addr) (c : Nat) (l : List Op) (p : Op → Bool) (w0 w : World) (hb0 : Bl w0 w) (hl : l.length ≤ 1048576) (hA : R cOp 0 w A l) (hp : PredO w0 fn ps l p) :
    Calls Tryz.prog 123 #[.slice A l.length c, .func (.func fn) #[] ps] w fun e w' => e = .returned (.bool (l.any p)) ∧ Bl w w' := by
  have hix := hide (opIndexFunc fn ps hfe A c l p w0 w hb0 hl hA hp)
  obtain ⟨T, hT⟩ : ∃ T, T = l.any p := ⟨_, rfl⟩
  rw [← hT]
  replace hT := hide hT
  go_enter Tryz.func123, Tryz.ntmps123
  go_wp2_with fail
  refine hix.out.mono ?_
  rintro e w1 ⟨r, rfl, hfst, hb1⟩
  rcases hfst with ⟨rfl, hno⟩ | ⟨k, x, rfl, hx, hpx, -⟩
  · have g := hide (show false = T by
      rw [hT.out, eq_comm, List.any_eq_false]
      intro x hx
      rw [hno x hx]
      decide)
    clear hno
    go_wp2_with fail
    go_ret
    exact ⟨ret_bool g.out, hb1⟩
  · have g := hide (show true = T by
      rw [hT.out, eq_comm, List.any_eq_true]
      exact ⟨x, List.mem_of_getElem? hx, hpx⟩)
    have hk : decide ((0 : Int) ≤ (k : Int)) = true := by simp
    clear hx hpx
    go_wp2_with fail
    go_ret
    exact ⟨ret_bool g.out, hb1⟩

def joinedX (s : Id) (o : Op) : Bool := decide (o.kind = 4) && decide (placeFin o.pl = s)

set_option maxRecDepth 100000 in
set_option maxHeartbeats 1000000 in
theorem joined1 (x : Op) (A : Option Addr) (c Y : Nat) (s : Id) (w : World) (hx : OpIn w x A c) (hY : IdBox w Y s) :
    Calls Tryz.prog 122 #[.agg #[.int .u8 x.kind, .int .u32 x.id.t, .int .u8 x.id.r, .slice A x.pl.length c, .int .i64 x.pt], .pointer (some ⟨Y, 0, none⟩)] w fun e w' => e = .returned (.bool (joinedX s x)) ∧ Bl w w' := by
  obtain ⟨W, hW⟩ : ∃ W, W = w.alloc (.cells #[Value.int IntKind.u8 x.kind, Value.int IntKind.u32 x.id.t, Value.int IntKind.u8 x.id.r, Value.slice A x.pl.length c, Value.int IntKind.i64 x.pt] 47) := ⟨_, rfl⟩
  have hbW : Bl w W := by rw [hW]; exact (Bl.refl _).alloc _
  have at0 : OpBox W w.heap.size x A c := by rw [hW]; exact OpBox.new w x A c _
  have atY := hY.bl hbW
  have hla := fun p : Wd W => placeLast A c x.pl p.v hx.small (hx.hR.bl (hbW.trans p.h))
  obtain ⟨x0, x1, x2, x3, x4⟩ := at0.cells
  have hal := at0.lt
  have hyl := atY.lt
  have X0 := fun p : Wd W => Wd.cell x0 hal p
  have X3 := fun p : Wd W => Wd.cell x3 hal p
  have Y0 := fun p : Wd W => Wd.cell atY.c0 hyl p
  have Y1 := fun p : Wd W => Wd.cell atY.c1 hyl p
  obtain ⟨T, hT⟩ : ∃ T, T = joinedX s x := ⟨_, rfl⟩
  rw [← hT]
  have hjn : joinedX s x = (decide (x.kind = 4) && !neqId (placeFin x.pl) s) := by unfold joinedX neqId; rw [Bool.not_not]
  rw [hjn] at hT
  have heq := run_eqId (placeFin x.pl) s
  generalize placeFin x.pl = q at *
  clear hjn x0 x1 x2 x3 x4
  by_cases hk4 : x.kind = 4
  · have e4 : (x.kind == 4) = true := by simp [hk4]
    rw [decide_eq_true hk4, Bool.true_and] at hT
    replace hk4 := hide hk4
    obtain ⟨v, hv⟩ : ∃ v, v = neqId q s := ⟨_, rfl⟩
    rw [← hv] at hT heq
    have g := hide hT
    replace hla := hide hla
    clear hT hv
    go_enter Tryz.func122, Tryz.ntmps122
    go_wp2_with fail
    rw [← hW]
    clear hW
    (refine wp_region_wd (by kernel_rfl) (by kernel_rfl) ?_
     repeat (go_big_quiet_step ((go_at_call 61; exact Calls.wd (hla.out _))))
     refine wpQuiet_nil ?_
     intro w2 hw'
     obtain ⟨⟨wx, hb2⟩, hw''⟩ := hw'
     subst hw'')
    go_wp2_with fail
    go_ret
    exact ⟨ret_bool g.out.symm, hbW.trans hb2⟩
  · have e4 : (x.kind == 4) = false := by simp [hk4]
    have g := hide (show false = T by rw [hT, decide_eq_false hk4]; rfl)
    replace hk4 := hide hk4
    clear hT hla
    go_enter Tryz.func122, Tryz.ntmps122
    go_wp2_with fail
    rw [← hW]
    clear hW
    (refine wp_region_wd (by kernel_rfl) (by kernel_rfl) ?_
     repeat (go_big_quiet_step ((fail)))
     refine wpQuiet_nil ?_
     intro w2 hw'
     obtain ⟨⟨wx, hb2⟩, hw''⟩ := hw'
     subst hw'')
    go_wp2_with fail
    go_ret
    exact ⟨ret_bool g.out, hbW.trans hb2⟩

set_option maxRecDepth 100000 in
set_option maxHeartbeats 1000000 in
theorem marksJoined (A : Option Addr) (c : Nat) (l : List Op) (s : Id) (w : World) (hl : l.length ≤ maxLen) (hA : R cOp 0 w A l) :
    Calls Tryz.prog 72 #[.slice A l.length c, .agg #[.int .u32 s.t, .int .u8 s.r]] w fun e w' => e = .returned (.bool (bagMay l && endedF l s)) ∧ Bl w w' := by
  have hck := fun V (hv : Bl w V) => bagCheck A c l V hl (hA.bl hv)
  obtain ⟨W, hW⟩ : ∃ W, W = w.alloc (.cells #[Value.int IntKind.u32 s.t, Value.int IntKind.u8 s.r] 25) := ⟨_, rfl⟩
  have hbW : Bl w W := by rw [hW]; exact (Bl.refl _).alloc _
  have at0 : IdBox W w.heap.size s := by rw [hW]; exact IdBox.new w s _
  cases h : bagMay l
  · rw [h] at hck
    replace hck := hide hck
    clear h
    go_enter Tryz.func72, Tryz.ntmps72
    go_wp2_with fail
    rw [← hW]
    clear hW
    refine (hck.out _ hbW).mono ?_
    rintro e w1 ⟨rfl, hb1⟩
    go_wp2_with fail
    go_ret
    exact ⟨rfl, hbW.trans hb1⟩
  · rw [h] at hck
    replace hck := hide hck
    have hl1 : l.length ≤ 1024 := (bagMay_parts h).1
    have hp : PredO W 122 #[.pointer (some ⟨w.heap.size, 0, none⟩)] l (joinedX s) := fun V x A c _ hV hx => joined1 x A c w.heap.size s V hx (at0.bl hV)
    have hcf := hide fun V (hv : Bl W V) => opContainsFunc 122 #[.pointer (some ⟨w.heap.size, 0, none⟩)] (enters_of Tryz.func122 (by kernel_rfl) rfl) A c l (joinedX s) W V hv (by omega) (hA.bl (hbW.trans hv)) hp
    rw [show (true && endedF l s) = l.any (joinedX s) from Bool.true_and _]
    generalize l.any (joinedX s) = T at *
    clear h hp
    go_enter Tryz.func72, Tryz.ntmps72
    go_wp2_with fail
    rw [← hW]
    clear hW
    refine (hck.out _ hbW).mono ?_
    rintro e w1 ⟨rfl, hb1⟩
    go_wp2_with fail
    refine (hcf.out _ hb1).mono ?_
    rintro e w2 ⟨rfl, hb2⟩
    go_wp2_with fail
    go_ret
    exact ⟨rfl, hbW.trans (hb1.trans hb2)⟩

end Go.Proofs.YteoodmilcpmmpaaGreat

namespace Go.Proofs.YteoodmilcpmmpaaGreat

open Go.RowKit

set_option maxRecDepth 100000 in
set_option maxHeartbeats 16000000 in
theorem shiftJoinedFF (A B S : Option Addr) (c d sc : Nat) (l : List Op) (H : List Entry) (o : Op) (w : World) (hl : l.length ≤ maxLen) (hh : H.length ≤ 65) (hsm : smallS H) (hA : R cOp 0 w A l) (hB : R cEntry 0 w B H) (ho : OpIn w o S sc) (his0 : findB H (aheadS l (placeFin o.pl)) = false) (hwas0 : findB H (placeFin o.pl) = false) :
    Calls Tryz.prog 74 #[.slice A l.length c, .slice B H.length d, .agg #[.int .u8 o.kind, .int .u32 o.id.t, .int .u8 o.id.r, .slice S o.pl.length sc, .int .i64 o.pt]] w (New2 cEntry (joinEL l H o) (joinEN l H o) w) := by
  obtain ⟨W, hW⟩ : ∃ W, W = w.alloc (.cells #[Value.int IntKind.u8 o.kind, Value.int IntKind.u32 o.id.t, Value.int IntKind.u8 o.id.r, Value.slice S o.pl.length sc, Value.int IntKind.i64 o.pt] 47) := ⟨_, rfl⟩
  have hbW : Bl w W := by rw [hW]; exact (Bl.refl _).alloc _
  have at0 : OpBox W w.heap.size o S sc := by rw [hW]; exact OpBox.new w o S sc _
  have hla := hide (placeLast S sc o.pl W ho.small (ho.hR.bl hbW))
  have hmok := fin_ok ho.hR
  have haok := aheadS_ok hA.oksO (placeFin o.pl)
  have hah := hide fun V (hv : Bl w V) => homeAhead A c l (placeFin o.pl) V hl (hA.bl hv)
  have hfa := hide fun V (hv : Bl w V) => shelfFind B d H (aheadS l (placeFin o.pl)) V (by omega) haok (hB.bl hv)
  have hfm := hide fun V (hv : Bl w V) => shelfFind B d H (placeFin o.pl) V (by omega) hmok (hB.bl hv)
  have htw := hide fun V (hv : Bl w V) => shelfTwinO B d H V hsm (hB.bl hv)
  have hadd := hide fun V (hv : Bl w V) => bagAdd A S c sc l o V hl (hA.bl hv) (ho.bl hv)
  have hdr := hide fun V (hv : Bl w V) => shelfDrop B d H (placeFin o.pl) V (by omega) hmok (hB.bl hv)
  have hxok := findE_ok hB.oksE (aheadS l (placeFin o.pl))
  have hyok := findE_ok hB.oksE (placeFin o.pl)
  have hdl := dropL_len H (placeFin o.pl)
  obtain ⟨Z, hZ⟩ : ∃ Z, Z = joinZ l H o := ⟨_, rfl⟩
  obtain ⟨L, hL⟩ : ∃ L, L = joinEL l H o := ⟨_, rfl⟩
  obtain ⟨N, hN⟩ : ∃ N, N = joinEN l H o := ⟨_, rfl⟩
  rw [← hL, ← hN]
  unfold joinEL someB joinH at hL
  unfold joinEN someB joinH at hN
  rw [← hZ] at hL hN
  unfold joinZ at hZ
  have hwl := hide fun X x V (hX : R cOp 0 V X (addL l o)) (hN : addN l o = 0) => shiftWhole X x (addL l o) (aheadS l (placeFin o.pl)) V (by have := addL_small hN; omega) hX
  obtain ⟨x0, x1, x2, x3, x4⟩ := at0.cells
  have hxl := at0.lt
  rw [his0, hwas0, if_neg (by decide)] at hL hN
  rw [his0] at hfa
  rw [hwas0] at hfm
  replace hL := hide hL
  generalize whereN l (placeFin o.pl) 1 = wn at *
  generalize aheadS l (placeFin o.pl) = a at *
  generalize placeFin o.pl = m at *
  generalize findE H a = x at *
  generalize findE H m = y at *
  generalize addL l o = l2 at *
  generalize addN l o = n2 at *
  generalize wholeB l2 a = wh at *
  replace hN := hide hN
  replace hZ := hide hZ
  go_enter Tryz.func74, Tryz.ntmps74
  go_wp2_with fail
  rw [← hW]
  clear hW
  refine hla.out.mono ?_
  rintro e w1 ⟨rfl, hb1⟩
  obtain ⟨V1, hV1⟩ : ∃ V1, V1 = w1.alloc (.cells #[Value.int IntKind.u32 m.t, Value.int IntKind.u8 m.r] 25) := ⟨_, rfl⟩
  have at1 : IdBox V1 w1.heap.size m := by rw [hV1]; exact IdBox.new w1 m _
  have hb1V : Bl w1 V1 := by rw [hV1]; exact (Bl.refl _).alloc _
  have hbW1 := hb1.trans hb1V
  clear x0 x1 x2 x3 x4 hxl hla
  go_wp2_with fail
  rw [← hV1]
  clear hV1
  refine (hah.out _ (hbW.trans hbW1)).mono ?_
  rintro e w2 ⟨rfl, hb2⟩
  obtain ⟨V2, hV2⟩ : ∃ V2, V2 = w2.alloc (.cells #[Value.int IntKind.u32 a.t, Value.int IntKind.u8 a.r] 25) := ⟨_, rfl⟩
  have at2 : IdBox V2 w2.heap.size a := by rw [hV2]; exact IdBox.new w2 a _
  have hb2V : Bl w2 V2 := by rw [hV2]; exact (Bl.refl _).alloc _
  have hb12 := hb2.trans hb2V
  have hbW2 := hbW1.trans hb12
  clear hah
  go_wp2_with fail
  rw [← hV2]
  clear hV2
  refine (hfa.out _ (hbW.trans hbW2)).mono ?_
  rintro e w3 ⟨XA, xc, XB, xd, rfl, -, -, -, -, -, -, hb3⟩
  obtain ⟨V3, hV3⟩ : ∃ V3, V3 = w3.alloc (.cells #[Value.int IntKind.u32 x.id.t, Value.int IntKind.u8 x.id.r, Value.bool x.ready, Value.bool x.pin, Value.int IntKind.i64 x.used, Value.bool x.known, Value.slice XA x.snap.length xc, Value.slice XB x.got.length xd] 62) := ⟨_, rfl⟩
  have at3 : EntAt V3 w3.heap.size x XA xc XB xd := by rw [hV3]; exact EntAt.new w3 x XA xc XB xd _
  have hb3V : Bl w3 V3 := by rw [hV3]; exact (Bl.refl _).alloc _
  have hb23 := hb3.trans hb3V
  obtain ⟨i0, i1, -, -⟩ := at1.bl (hb12.trans hb23)
  have hil := (at1.bl (hb12.trans hb23)).lt
  clear hfa
  go_upto_region 4 with fail
  rw [← hV3]
  clear hV3
  go_wp2_with fail
  refine (hfm.out _ (hbW.trans (hbW2.trans hb23))).mono ?_
  rintro e w4 ⟨YA, yc, YB, yd, rfl, -, -, -, -, -, -, hb4⟩
  obtain ⟨V4, hV4⟩ : ∃ V4, V4 = w4.alloc (.cells #[Value.int IntKind.u32 y.id.t, Value.int IntKind.u8 y.id.r, Value.bool y.ready, Value.bool y.pin, Value.int IntKind.i64 y.used, Value.bool y.known, Value.slice YA y.snap.length yc, Value.slice YB y.got.length yd] 62) := ⟨_, rfl⟩
  have at4 : EntAt V4 w4.heap.size y YA yc YB yd := by rw [hV4]; exact EntAt.new w4 y YA yc YB yd _
  have hb4V : Bl w4 V4 := by rw [hV4]; exact (Bl.refl _).alloc _
  have hb34 := hb3V.trans (hb4.trans hb4V)
  have at34 := at3.bl (hb4.trans hb4V)
  have hY4 : w3.heap.size < w4.heap.size := Nat.lt_of_lt_of_le at3.lt hb4.size
  have hbW3 := hbW2.trans hb3
  clear hfm i0 i1 hil
  clear hZ hwl hadd hdr his0 hwas0
  go_wp2_with fail
  rw [← hV4]
  clear hV4
  refine (htw.out _ (hbW.trans (hbW3.trans hb34))).mono ?_
  rintro e w5 ⟨v5, rfl, hown, hb5⟩
  obtain ⟨X, xc3, hvx, hX, y1, y2⟩ := hown.reads
  subst hvx
  go_wp2_with fail
  go_ret2
  rw [hL.out, hN.out]
  exact ⟨X, xc3, rfl, y1, y2, hX.more (hbW.trans (hbW3.trans hb34)).size, (hbW.trans (hbW3.trans hb34)).trans hb5⟩

theorem shiftJoined (A B S : Option Addr) (c d sc : Nat) (l : List Op) (H : List Entry) (o : Op) (w : World) (hl : l.length ≤ maxLen) (hh : H.length ≤ 65) (hsm : smallS H) (hA : R cOp 0 w A l) (hB : R cEntry 0 w B H) (ho : OpIn w o S sc) :
    Calls Tryz.prog 74 #[.slice A l.length c, .slice B H.length d, .agg #[.int .u8 o.kind, .int .u32 o.id.t, .int .u8 o.id.r, .slice S o.pl.length sc, .int .i64 o.pt]] w (New2 cEntry (joinEL l H o) (joinEN l H o) w) := by
  cases h1 : findB H (aheadS l (placeFin o.pl))
  · cases h2 : findB H (placeFin o.pl)
    · exact shiftJoinedFF A B S c d sc l H o w hl hh hsm hA hB ho h1 h2
    · exact shiftJoinedFT A B S c d sc l H o w hl hh hsm hA hB ho h1 h2
  · cases h2 : findB H (placeFin o.pl)
    · exact shiftJoinedTF A B S c d sc l H o w hl hh hsm hA hB ho h1 h2
    · exact shiftJoinedTT A B S c d sc l H o w hl hh hsm hA hB ho h1 h2

end Go.Proofs.YteoodmilcpmmpaaGreat

namespace Go.Proofs.YteoodmilcpmmpaaGreat

open Go.RowKit

/-- Which way the operation goes: 0 it may not be, or is content; 1 the shelf stays; 2 the bag is full; 3 a mark; 4 a join. -/
def turnK (l : List Op) (h : List Entry) (o : Op) : Nat :=
  if fitsB l h && opMay o then
    (if contentO o then 0 else if hasId l o.id then 1 else if l.length = 1024 then 2
      else if o.kind = 2 then (if endedF l o.id then 1 else 3)
      else if o.kind = 4 then (if memId (sectF (livesF l)) (placeFin o.pl) then 4 else 1) else 1)
  else 0

def turnL (l : List Op) (h : List Entry) (o : Op) : List Entry := match turnK l h o with
  | 1 => h
  | 3 => markL l h o
  | 4 => joinEL l h o
  | _ => []

def turnN (l : List Op) (h : List Entry) (o : Op) : Int := match turnK l h o with
  | 1 => 0
  | 2 => 9
  | 3 => markN l h o
  | 4 => joinEN l h o
  | _ => 8

set_option maxRecDepth 100000 in
set_option maxHeartbeats 1000000 in
theorem shiftLive (A S : Option Addr) (c sc : Nat) (l : List Op) (o : Op) (b3 b5 : Nat) (w : World) (hl : l.length ≤ maxLen) (hb : bagMay l = true) (hA : R cOp 0 w A l) (ho : OpIn w o S sc) (h3 : w.cell? ⟨b3, 0, none⟩ = some (.slice A l.length c)) (h5 : OpBox w b5 o S sc) :
    Calls Tryz.prog 69 #[.pointer (some ⟨b3, 0, none⟩), .pointer (some ⟨b5, 0, none⟩)] w fun e w' => e = .returned (.bool (memId (sectF (livesF l)) (placeFin o.pl))) ∧ Bl w w' := by
  have hall := hide (homeAll A c l w hl hA)
  have hla := hide fun V (hv : Bl w V) => placeLast S sc o.pl V ho.small (ho.hR.bl hv)
  have hal : allL l = sectF (livesF l) := by unfold allL; rw [hb]; rfl
  have hsl : (sectF (livesF l)).length ≤ maxLen := by rw [sect_length]; have := lives_small hb; unfold maxLen; omega
  rw [hb, hal] at hall
  have hcon := hide fun X x V (hX : R cId 0 V X (sectF (livesF l))) => idContains X x (sectF (livesF l)) (placeFin o.pl) V hsl hX
  have h3l := World.block_lt_of_cell? _ _ h3
  clear hb hal hsl
  generalize sectF (livesF l) = T at *
  generalize placeFin o.pl = m at *
  go_enter Tryz.func69, Tryz.ntmps69
  go_wp2_with fail
  refine hall.out.mono ?_
  rintro e w1 ⟨X, x, rfl, x1, x2, hX, hb1⟩
  obtain ⟨i0, i1, i2, i3, i4⟩ := (h5.bl hb1).cells
  have hil := (h5.bl hb1).lt
  clear hall
  go_wp2_with fail
  refine (hla.out _ hb1).mono ?_
  rintro e w2 ⟨rfl, hb2⟩
  clear i0 i1 i2 i3 i4 hil
  go_wp2_with fail
  refine (hcon.out X x w2 (hX.zero.bl hb2)).mono ?_
  rintro e w3 ⟨rfl, hb3⟩
  go_wp2_with fail
  go_ret
  exact ⟨rfl, hb1.trans (hb2.trans hb3)⟩

set_option maxRecDepth 100000 in
set_option maxHeartbeats 16000000 in
theorem shiftTurn (A B S : Option Addr) (c d sc : Nat) (l : List Op) (H : List Entry) (o : Op) (w : World) (hl : l.length ≤ maxLen) (hh : H.length ≤ maxLen) (hA : R cOp 0 w A l) (hB : R cEntry 0 w B H) (ho : OpIn w o S sc) :
    Calls Tryz.prog 22 #[.slice A l.length c, .slice B H.length d, .agg #[.int .u8 o.kind, .int .u32 o.id.t, .int .u8 o.id.r, .slice S o.pl.length sc, .int .i64 o.pt]] w (New2 cEntry (turnL l H o) (turnN l H o) w) := by
  obtain ⟨W, hW⟩ : ∃ W, W = (w.alloc (.cells #[.slice A l.length c] 22)).alloc (.cells #[Value.int IntKind.u8 o.kind, Value.int IntKind.u32 o.id.t, Value.int IntKind.u8 o.id.r, Value.slice S o.pl.length sc, Value.int IntKind.i64 o.pt] 47) := ⟨_, rfl⟩
  have hbW : Bl w W := by rw [hW]; exact ((Bl.refl _).alloc _).alloc _
  have at1 : OpBox W (w.heap.size + 1) o S sc := by
    have h := OpBox.new (w.alloc (.cells #[.slice A l.length c] 22)) o S sc 47
    rw [World.size_alloc w] at h
    rw [hW]
    exact h
  have at0 : W.cell? ⟨w.heap.size, 0, none⟩ = some (.slice A l.length c) := by
    have h := (At.new w [.slice A l.length c] 22 0 _ rfl).1
    rw [hW]
    exact (((Bl.refl _).alloc _).cell (World.block_lt_of_cell? _ _ h)).trans h
  have hl0 := World.block_lt_of_cell? _ _ at0
  have hck := hide fun V (hv : Bl w V) => shiftCheck A B c d l H V hl hh (hA.bl hv) (hB.bl hv)
  have hoc := hide fun V (hv : Bl w V) => opCheck o S sc V (ho.bl hv)
  have hfi := hide fun V (hv : Bl w V) => bagFind A c l o.id V hl ho.ok.2.1 (hA.bl hv)
  have hmf := run_makeFunc
  obtain ⟨L, hL⟩ : ∃ L, L = turnL l H o := ⟨_, rfl⟩
  obtain ⟨N, hN⟩ : ∃ N, N = turnN l H o := ⟨_, rfl⟩
  rw [← hL, ← hN]
  unfold turnL turnK at hL
  unfold turnN turnK at hN
  cases hf : fitsB l H
  · rw [hf, Bool.false_and, if_neg (by decide)] at hL hN
    rw [hf] at hck
    have e1 : L = [] := hL
    have e2 : N = 8 := hN
    subst e1 e2
    clear hL hN hf hoc hfi
    go_enter Tryz.func22, Tryz.ntmps22
    go_wp2_with fail
    rw [← hW]
    clear hW
    refine (hck.out _ hbW).mono ?_
    rintro e w1 ⟨rfl, hb1⟩
    go_wp2_with fail
    go_ret2
    exact ⟨none, 0, rfl, Nat.le_refl _, Nat.zero_le _, R.nil, hbW.trans hb1⟩
  rw [hf, Bool.true_and] at hL hN
  rw [hf] at hck
  cases hm : opMay o
  · rw [hm, if_neg (by decide)] at hL hN
    rw [hm] at hoc
    have e1 : L = [] := hL
    have e2 : N = 8 := hN
    subst e1 e2
    clear hL hN hf hm hfi
    go_enter Tryz.func22, Tryz.ntmps22
    go_wp2_with fail
    rw [← hW]
    clear hW
    refine (hck.out _ hbW).mono ?_
    rintro e w1 ⟨rfl, hb1⟩
    obtain ⟨i0, i1, i2, i3, i4⟩ := (at1.bl hb1).cells
    have hil := (at1.bl hb1).lt
    go_wp2_with fail
    refine (hoc.out _ (hbW.trans hb1)).mono ?_
    rintro e w2 ⟨rfl, hb2⟩
    go_wp2_with fail
    go_ret2
    exact ⟨none, 0, rfl, Nat.le_refl _, Nat.zero_le _, R.nil, hbW.trans (hb1.trans hb2)⟩
  rw [hm, if_pos rfl] at hL hN
  rw [hm] at hoc
  unfold fitsB at hf
  simp only [Bool.and_eq_true] at hf
  have hbm := hf.1
  have hsm := may_small hf.2.1
  have h65 := (may_from hf.2.1).1
  have hhas : findB11 l o.id = hasId l o.id := by unfold findB11; rw [hbm]; rfl
  rw [hhas] at hfi
  have htw := hide fun V (hv : Bl w V) => shelfTwinO B d H V hsm (hB.bl hv)
  have hmj := hide fun V (hv : Bl w V) => marksJoined A c l o.id V hl (hA.bl hv)
  rw [hbm, Bool.true_and] at hmj
  have hli := hide fun V (hv : Bl w V) (h3 : V.cell? ⟨w.heap.size, 0, none⟩ = some (.slice A l.length c)) (h5 : OpBox V (w.heap.size + 1) o S sc) => shiftLive A S c sc l o w.heap.size (w.heap.size + 1) V hl hbm (hA.bl hv) (ho.bl hv) h3 h5
  have hmk := hide fun V (hv : Bl w V) => shiftMarked A B S c d sc l H o V hl h65 hsm (hA.bl hv) (hB.bl hv) (ho.bl hv)
  have hjo := hide fun V (hv : Bl w V) => shiftJoined A B S c d sc l H o V hl h65 hsm (hA.bl hv) (hB.bl hv) (ho.bl hv)
  have hlen : ((l.length : Int) == 1024) = decide (l.length = 1024) := by
    by_cases h : l.length = 1024
    · rw [h]; rfl
    · rw [decide_eq_false h]; simp; omega
  clear hf hm hbm hhas
  unfold contentO at hL hN
  generalize hasId l o.id = has at *
  generalize endedF l o.id = en at *
  generalize memId (sectF (livesF l)) (placeFin o.pl) = me at *
  generalize markL l H o = mL at *
  generalize markN l H o = mN at *
  generalize joinEL l H o = jL at *
  generalize joinEN l H o = jN at *
  generalize findO l o.id = fo at *
  by_cases k1 : o.kind = 1
  · have e1 : (o.kind == 1) = true := by simp [k1]
    rw [decide_eq_true k1, Bool.true_or, if_pos rfl] at hL hN
    have l1 : L = [] := hL
    have l2 : N = 8 := hN
    subst l1 l2
    replace k1 := hide k1
    clear hL hN htw hmj hli hmk hjo
    go_enter Tryz.func22, Tryz.ntmps22
    go_wp2_with fail
    rw [← hW]
    clear hW
    refine (hck.out _ hbW).mono ?_
    rintro e w1 ⟨rfl, hb1⟩
    obtain ⟨i0, i1, i2, i3, i4⟩ := (at1.bl hb1).cells
    have hil := (at1.bl hb1).lt
    go_wp2_with fail
    refine (hoc.out _ (hbW.trans hb1)).mono ?_
    rintro e w2 ⟨rfl, hb2⟩
    have hb12 := hb1.trans hb2
    clear i0 i1 i2 i3 i4 hil
    obtain ⟨i0, i1, i2, i3, i4⟩ := (at1.bl hb12).cells
    have hil := (at1.bl hb12).lt
    have j0 := (hb12.cell hl0).trans at0
    go_wp2_with fail
    refine (hfi.out _ (hbW.trans hb12)).mono ?_
    rintro e w3 ⟨FA, fc, rfl, -, -, -, hb3⟩
    obtain ⟨V3, hV3⟩ : ∃ V3, V3 = w3.alloc (.cells #[Value.int IntKind.u8 fo.kind, Value.int IntKind.u32 fo.id.t, Value.int IntKind.u8 fo.id.r, Value.slice FA fo.pl.length fc, Value.int IntKind.i64 fo.pt] 47) := ⟨_, rfl⟩
    have hb3V : Bl w3 V3 := by rw [hV3]; exact (Bl.refl _).alloc _
    have hbW3 := hb12.trans (hb3.trans hb3V)
    have hbw3 := hbW.trans hbW3
    have at03 := (hbW3.cell hl0).trans at0
    have at13 := at1.bl hbW3
    clear i0 i1 i2 i3 i4 hil j0
    go_upto_region 4 with fail
    rw [← hV3]
    clear hV3
    obtain ⟨i0, i1, i2, i3, i4⟩ := at13.cells
    have hil := at13.lt
    go_wp2_with fail
    go_ret2
    exact ⟨none, 0, rfl, Nat.le_refl _, Nat.zero_le _, R.nil, hbw3⟩
  have e1 : (o.kind == 1) = false := by simp [k1]
  rw [decide_eq_false k1, Bool.false_or] at hL hN
  by_cases k3 : o.kind = 3
  · have e3 : (o.kind == 3) = true := by simp [k3]
    rw [decide_eq_true k3, if_pos rfl] at hL hN
    have l1 : L = [] := hL
    have l2 : N = 8 := hN
    subst l1 l2
    replace k1 := hide k1
    replace k3 := hide k3
    clear hL hN htw hmj hli hmk hjo
    go_enter Tryz.func22, Tryz.ntmps22
    go_wp2_with fail
    rw [← hW]
    clear hW
    refine (hck.out _ hbW).mono ?_
    rintro e w1 ⟨rfl, hb1⟩
    obtain ⟨i0, i1, i2, i3, i4⟩ := (at1.bl hb1).cells
    have hil := (at1.bl hb1).lt
    go_wp2_with fail
    refine (hoc.out _ (hbW.trans hb1)).mono ?_
    rintro e w2 ⟨rfl, hb2⟩
    have hb12 := hb1.trans hb2
    clear i0 i1 i2 i3 i4 hil
    obtain ⟨i0, i1, i2, i3, i4⟩ := (at1.bl hb12).cells
    have hil := (at1.bl hb12).lt
    have j0 := (hb12.cell hl0).trans at0
    go_wp2_with fail
    refine (hfi.out _ (hbW.trans hb12)).mono ?_
    rintro e w3 ⟨FA, fc, rfl, -, -, -, hb3⟩
    obtain ⟨V3, hV3⟩ : ∃ V3, V3 = w3.alloc (.cells #[Value.int IntKind.u8 fo.kind, Value.int IntKind.u32 fo.id.t, Value.int IntKind.u8 fo.id.r, Value.slice FA fo.pl.length fc, Value.int IntKind.i64 fo.pt] 47) := ⟨_, rfl⟩
    have hb3V : Bl w3 V3 := by rw [hV3]; exact (Bl.refl _).alloc _
    have hbW3 := hb12.trans (hb3.trans hb3V)
    have hbw3 := hbW.trans hbW3
    have at03 := (hbW3.cell hl0).trans at0
    have at13 := at1.bl hbW3
    clear i0 i1 i2 i3 i4 hil j0
    go_upto_region 4 with fail
    rw [← hV3]
    clear hV3
    obtain ⟨i0, i1, i2, i3, i4⟩ := at13.cells
    have hil := at13.lt
    go_wp2_with fail
    go_ret2
    exact ⟨none, 0, rfl, Nat.le_refl _, Nat.zero_le _, R.nil, hbw3⟩
  have e3 : (o.kind == 3) = false := by simp [k3]
  rw [decide_eq_false k3, if_neg (by decide)] at hL hN
  replace k1 := hide k1
  replace k3 := hide k3
  cases has
  rotate_left
  · rw [if_pos rfl] at hL hN
    have l1 : L = H := hL
    have l2 : N = 0 := hN
    subst l1 l2
    clear hL hN hmj hli hmk hjo
    go_enter Tryz.func22, Tryz.ntmps22
    go_wp2_with fail
    rw [← hW]
    clear hW
    refine (hck.out _ hbW).mono ?_
    rintro e w1 ⟨rfl, hb1⟩
    obtain ⟨i0, i1, i2, i3, i4⟩ := (at1.bl hb1).cells
    have hil := (at1.bl hb1).lt
    go_wp2_with fail
    refine (hoc.out _ (hbW.trans hb1)).mono ?_
    rintro e w2 ⟨rfl, hb2⟩
    have hb12 := hb1.trans hb2
    clear i0 i1 i2 i3 i4 hil
    obtain ⟨i0, i1, i2, i3, i4⟩ := (at1.bl hb12).cells
    have hil := (at1.bl hb12).lt
    have j0 := (hb12.cell hl0).trans at0
    go_wp2_with fail
    refine (hfi.out _ (hbW.trans hb12)).mono ?_
    rintro e w3 ⟨FA, fc, rfl, -, -, -, hb3⟩
    obtain ⟨V3, hV3⟩ : ∃ V3, V3 = w3.alloc (.cells #[Value.int IntKind.u8 fo.kind, Value.int IntKind.u32 fo.id.t, Value.int IntKind.u8 fo.id.r, Value.slice FA fo.pl.length fc, Value.int IntKind.i64 fo.pt] 47) := ⟨_, rfl⟩
    have hb3V : Bl w3 V3 := by rw [hV3]; exact (Bl.refl _).alloc _
    have hbW3 := hb12.trans (hb3.trans hb3V)
    have hbw3 := hbW.trans hbW3
    have at03 := (hbW3.cell hl0).trans at0
    have at13 := at1.bl hbW3
    clear i0 i1 i2 i3 i4 hil j0
    go_upto_region 4 with fail
    rw [← hV3]
    clear hV3
    obtain ⟨i0, i1, i2, i3, i4⟩ := at13.cells
    have hil := at13.lt
    go_wp2_with fail
    refine (htw.out _ (hbw3)).mono ?_
    rintro e w9 ⟨v9, rfl, hown, hb9⟩
    obtain ⟨X, xc, hvx, hX, y1, y2⟩ := hown.reads
    subst hvx
    go_wp2_with fail
    go_ret2
    exact ⟨X, xc, rfl, y1, y2, hX.more (hbw3).size, (hbw3).trans hb9⟩
  rw [if_neg (by decide)] at hL hN
  by_cases hfu : l.length = 1024
  · rw [if_pos hfu] at hL hN
    rw [decide_eq_true hfu] at hlen
    have l1 : L = [] := hL
    have l2 : N = 9 := hN
    subst l1 l2
    replace hfu := hide hfu
    clear hL hN htw hmj hli hmk hjo
    go_enter Tryz.func22, Tryz.ntmps22
    go_wp2_with fail
    rw [← hW]
    clear hW
    refine (hck.out _ hbW).mono ?_
    rintro e w1 ⟨rfl, hb1⟩
    obtain ⟨i0, i1, i2, i3, i4⟩ := (at1.bl hb1).cells
    have hil := (at1.bl hb1).lt
    go_wp2_with fail
    refine (hoc.out _ (hbW.trans hb1)).mono ?_
    rintro e w2 ⟨rfl, hb2⟩
    have hb12 := hb1.trans hb2
    clear i0 i1 i2 i3 i4 hil
    obtain ⟨i0, i1, i2, i3, i4⟩ := (at1.bl hb12).cells
    have hil := (at1.bl hb12).lt
    have j0 := (hb12.cell hl0).trans at0
    go_wp2_with fail
    refine (hfi.out _ (hbW.trans hb12)).mono ?_
    rintro e w3 ⟨FA, fc, rfl, -, -, -, hb3⟩
    obtain ⟨V3, hV3⟩ : ∃ V3, V3 = w3.alloc (.cells #[Value.int IntKind.u8 fo.kind, Value.int IntKind.u32 fo.id.t, Value.int IntKind.u8 fo.id.r, Value.slice FA fo.pl.length fc, Value.int IntKind.i64 fo.pt] 47) := ⟨_, rfl⟩
    have hb3V : Bl w3 V3 := by rw [hV3]; exact (Bl.refl _).alloc _
    have hbW3 := hb12.trans (hb3.trans hb3V)
    have hbw3 := hbW.trans hbW3
    have at03 := (hbW3.cell hl0).trans at0
    have at13 := at1.bl hbW3
    clear i0 i1 i2 i3 i4 hil j0
    go_upto_region 4 with fail
    rw [← hV3]
    clear hV3
    obtain ⟨i0, i1, i2, i3, i4⟩ := at13.cells
    have hil := at13.lt
    go_wp2_with fail
    go_ret2
    exact ⟨none, 0, rfl, Nat.le_refl _, Nat.zero_le _, R.nil, hbw3⟩
  rw [if_neg hfu] at hL hN
  rw [decide_eq_false hfu] at hlen
  replace hfu := hide hfu
  by_cases k2 : o.kind = 2
  · have e2 : (o.kind == 2) = true := by simp [k2]
    have e4 : (o.kind == 4) = false := by simp [k2]
    rw [if_pos k2] at hL hN
    replace k2 := hide k2
    cases en
    · rw [if_neg (by decide)] at hL hN
      have l1 : L = mL := hL
      have l2 : N = mN := hN
      subst l1 l2
      clear hL hN htw hli hjo
      go_enter Tryz.func22, Tryz.ntmps22
      go_wp2_with fail
      rw [← hW]
      clear hW
      refine (hck.out _ hbW).mono ?_
      rintro e w1 ⟨rfl, hb1⟩
      obtain ⟨i0, i1, i2, i3, i4⟩ := (at1.bl hb1).cells
      have hil := (at1.bl hb1).lt
      go_wp2_with fail
      refine (hoc.out _ (hbW.trans hb1)).mono ?_
      rintro e w2 ⟨rfl, hb2⟩
      have hb12 := hb1.trans hb2
      clear i0 i1 i2 i3 i4 hil
      obtain ⟨i0, i1, i2, i3, i4⟩ := (at1.bl hb12).cells
      have hil := (at1.bl hb12).lt
      have j0 := (hb12.cell hl0).trans at0
      go_wp2_with fail
      refine (hfi.out _ (hbW.trans hb12)).mono ?_
      rintro e w3 ⟨FA, fc, rfl, -, -, -, hb3⟩
      obtain ⟨V3, hV3⟩ : ∃ V3, V3 = w3.alloc (.cells #[Value.int IntKind.u8 fo.kind, Value.int IntKind.u32 fo.id.t, Value.int IntKind.u8 fo.id.r, Value.slice FA fo.pl.length fc, Value.int IntKind.i64 fo.pt] 47) := ⟨_, rfl⟩
      have hb3V : Bl w3 V3 := by rw [hV3]; exact (Bl.refl _).alloc _
      have hbW3 := hb12.trans (hb3.trans hb3V)
      have hbw3 := hbW.trans hbW3
      have at03 := (hbW3.cell hl0).trans at0
      have at13 := at1.bl hbW3
      clear i0 i1 i2 i3 i4 hil j0
      go_upto_region 4 with fail
      rw [← hV3]
      clear hV3
      obtain ⟨i0, i1, i2, i3, i4⟩ := at13.cells
      have hil := at13.lt
      go_wp2_with fail
      refine (hmj.out _ hbw3).mono ?_
      rintro e w4 ⟨rfl, hb4⟩
      clear i0 i1 i2 i3 i4 hil
      replace at03 := ((hb4).cell (World.block_lt_of_cell? _ _ at03)).trans at03
      obtain ⟨i0, i1, i2, i3, i4⟩ := (at13.bl hb4).cells
      have hil := (at13.bl hb4).lt
      go_wp2_with fail
      refine (hmk.out _ (hbw3.trans hb4)).mono ?_
      rintro e w5 ⟨X, x, rfl, x1, x2, hX, hb5⟩
      go_wp2_with fail
      go_ret2
      exact ⟨X, x, rfl, x1, x2, hX.more (hbw3.trans hb4).size, (hbw3.trans hb4).trans hb5⟩
    · rw [if_pos rfl] at hL hN
      have l1 : L = H := hL
      have l2 : N = 0 := hN
      subst l1 l2
      clear hL hN hli hmk hjo
      go_enter Tryz.func22, Tryz.ntmps22
      go_wp2_with fail
      rw [← hW]
      clear hW
      refine (hck.out _ hbW).mono ?_
      rintro e w1 ⟨rfl, hb1⟩
      obtain ⟨i0, i1, i2, i3, i4⟩ := (at1.bl hb1).cells
      have hil := (at1.bl hb1).lt
      go_wp2_with fail
      refine (hoc.out _ (hbW.trans hb1)).mono ?_
      rintro e w2 ⟨rfl, hb2⟩
      have hb12 := hb1.trans hb2
      clear i0 i1 i2 i3 i4 hil
      obtain ⟨i0, i1, i2, i3, i4⟩ := (at1.bl hb12).cells
      have hil := (at1.bl hb12).lt
      have j0 := (hb12.cell hl0).trans at0
      go_wp2_with fail
      refine (hfi.out _ (hbW.trans hb12)).mono ?_
      rintro e w3 ⟨FA, fc, rfl, -, -, -, hb3⟩
      obtain ⟨V3, hV3⟩ : ∃ V3, V3 = w3.alloc (.cells #[Value.int IntKind.u8 fo.kind, Value.int IntKind.u32 fo.id.t, Value.int IntKind.u8 fo.id.r, Value.slice FA fo.pl.length fc, Value.int IntKind.i64 fo.pt] 47) := ⟨_, rfl⟩
      have hb3V : Bl w3 V3 := by rw [hV3]; exact (Bl.refl _).alloc _
      have hbW3 := hb12.trans (hb3.trans hb3V)
      have hbw3 := hbW.trans hbW3
      have at03 := (hbW3.cell hl0).trans at0
      have at13 := at1.bl hbW3
      clear i0 i1 i2 i3 i4 hil j0
      go_upto_region 4 with fail
      rw [← hV3]
      clear hV3
      obtain ⟨i0, i1, i2, i3, i4⟩ := at13.cells
      have hil := at13.lt
      go_wp2_with fail
      refine (hmj.out _ hbw3).mono ?_
      rintro e w4 ⟨rfl, hb4⟩
      clear i0 i1 i2 i3 i4 hil
      replace at03 := ((hb4).cell (World.block_lt_of_cell? _ _ at03)).trans at03
      obtain ⟨i0, i1, i2, i3, i4⟩ := (at13.bl hb4).cells
      have hil := (at13.bl hb4).lt
      go_wp2_with fail
      refine (htw.out _ (hbw3.trans hb4)).mono ?_
      rintro e w9 ⟨v9, rfl, hown, hb9⟩
      obtain ⟨X, xc, hvx, hX, y1, y2⟩ := hown.reads
      subst hvx
      go_wp2_with fail
      go_ret2
      exact ⟨X, xc, rfl, y1, y2, hX.more (hbw3.trans hb4).size, (hbw3.trans hb4).trans hb9⟩
  have e2 : (o.kind == 2) = false := by simp [k2]
  rw [if_neg k2] at hL hN
  replace k2 := hide k2
  by_cases k4 : o.kind = 4
  rotate_left
  · have e4 : (o.kind == 4) = false := by simp [k4]
    rw [if_neg k4] at hL hN
    have l1 : L = H := hL
    have l2 : N = 0 := hN
    subst l1 l2
    replace k4 := hide k4
    clear hL hN hmj hli hmk hjo
    go_enter Tryz.func22, Tryz.ntmps22
    go_wp2_with fail
    rw [← hW]
    clear hW
    refine (hck.out _ hbW).mono ?_
    rintro e w1 ⟨rfl, hb1⟩
    obtain ⟨i0, i1, i2, i3, i4⟩ := (at1.bl hb1).cells
    have hil := (at1.bl hb1).lt
    go_wp2_with fail
    refine (hoc.out _ (hbW.trans hb1)).mono ?_
    rintro e w2 ⟨rfl, hb2⟩
    have hb12 := hb1.trans hb2
    clear i0 i1 i2 i3 i4 hil
    obtain ⟨i0, i1, i2, i3, i4⟩ := (at1.bl hb12).cells
    have hil := (at1.bl hb12).lt
    have j0 := (hb12.cell hl0).trans at0
    go_wp2_with fail
    refine (hfi.out _ (hbW.trans hb12)).mono ?_
    rintro e w3 ⟨FA, fc, rfl, -, -, -, hb3⟩
    obtain ⟨V3, hV3⟩ : ∃ V3, V3 = w3.alloc (.cells #[Value.int IntKind.u8 fo.kind, Value.int IntKind.u32 fo.id.t, Value.int IntKind.u8 fo.id.r, Value.slice FA fo.pl.length fc, Value.int IntKind.i64 fo.pt] 47) := ⟨_, rfl⟩
    have hb3V : Bl w3 V3 := by rw [hV3]; exact (Bl.refl _).alloc _
    have hbW3 := hb12.trans (hb3.trans hb3V)
    have hbw3 := hbW.trans hbW3
    have at03 := (hbW3.cell hl0).trans at0
    have at13 := at1.bl hbW3
    clear i0 i1 i2 i3 i4 hil j0
    go_upto_region 4 with fail
    rw [← hV3]
    clear hV3
    obtain ⟨i0, i1, i2, i3, i4⟩ := at13.cells
    have hil := at13.lt
    go_wp2_with fail
    refine (htw.out _ (hbw3)).mono ?_
    rintro e w9 ⟨v9, rfl, hown, hb9⟩
    obtain ⟨X, xc, hvx, hX, y1, y2⟩ := hown.reads
    subst hvx
    go_wp2_with fail
    go_ret2
    exact ⟨X, xc, rfl, y1, y2, hX.more (hbw3).size, (hbw3).trans hb9⟩
  have e4 : (o.kind == 4) = true := by simp [k4]
  rw [if_pos k4] at hL hN
  replace k4 := hide k4
  cases me
  · rw [if_neg (by decide)] at hL hN
    have l1 : L = H := hL
    have l2 : N = 0 := hN
    subst l1 l2
    clear hL hN hmj hmk hjo
    go_enter Tryz.func22, Tryz.ntmps22
    go_wp2_with fail
    rw [← hW]
    clear hW
    refine (hck.out _ hbW).mono ?_
    rintro e w1 ⟨rfl, hb1⟩
    obtain ⟨i0, i1, i2, i3, i4⟩ := (at1.bl hb1).cells
    have hil := (at1.bl hb1).lt
    go_wp2_with fail
    refine (hoc.out _ (hbW.trans hb1)).mono ?_
    rintro e w2 ⟨rfl, hb2⟩
    have hb12 := hb1.trans hb2
    clear i0 i1 i2 i3 i4 hil
    obtain ⟨i0, i1, i2, i3, i4⟩ := (at1.bl hb12).cells
    have hil := (at1.bl hb12).lt
    have j0 := (hb12.cell hl0).trans at0
    go_wp2_with fail
    refine (hfi.out _ (hbW.trans hb12)).mono ?_
    rintro e w3 ⟨FA, fc, rfl, -, -, -, hb3⟩
    obtain ⟨V3, hV3⟩ : ∃ V3, V3 = w3.alloc (.cells #[Value.int IntKind.u8 fo.kind, Value.int IntKind.u32 fo.id.t, Value.int IntKind.u8 fo.id.r, Value.slice FA fo.pl.length fc, Value.int IntKind.i64 fo.pt] 47) := ⟨_, rfl⟩
    have hb3V : Bl w3 V3 := by rw [hV3]; exact (Bl.refl _).alloc _
    have hbW3 := hb12.trans (hb3.trans hb3V)
    have hbw3 := hbW.trans hbW3
    have at03 := (hbW3.cell hl0).trans at0
    have at13 := at1.bl hbW3
    clear i0 i1 i2 i3 i4 hil j0
    go_upto_region 4 with fail
    rw [← hV3]
    clear hV3
    obtain ⟨i0, i1, i2, i3, i4⟩ := at13.cells
    have hil := at13.lt
    have hcl := hide (hli.out V3 hbw3 at03 at13)
    go_wp2_with fail
    refine hcl.out.mono ?_
    rintro e w4 ⟨rfl, hb4⟩
    go_wp2_with fail
    refine (htw.out _ (hbw3.trans hb4)).mono ?_
    rintro e w9 ⟨v9, rfl, hown, hb9⟩
    obtain ⟨X, xc, hvx, hX, y1, y2⟩ := hown.reads
    subst hvx
    go_wp2_with fail
    go_ret2
    exact ⟨X, xc, rfl, y1, y2, hX.more (hbw3.trans hb4).size, (hbw3.trans hb4).trans hb9⟩
  · rw [if_pos rfl] at hL hN
    have l1 : L = jL := hL
    have l2 : N = jN := hN
    subst l1 l2
    clear hL hN htw hmj hmk
    go_enter Tryz.func22, Tryz.ntmps22
    go_wp2_with fail
    rw [← hW]
    clear hW
    refine (hck.out _ hbW).mono ?_
    rintro e w1 ⟨rfl, hb1⟩
    obtain ⟨i0, i1, i2, i3, i4⟩ := (at1.bl hb1).cells
    have hil := (at1.bl hb1).lt
    go_wp2_with fail
    refine (hoc.out _ (hbW.trans hb1)).mono ?_
    rintro e w2 ⟨rfl, hb2⟩
    have hb12 := hb1.trans hb2
    clear i0 i1 i2 i3 i4 hil
    obtain ⟨i0, i1, i2, i3, i4⟩ := (at1.bl hb12).cells
    have hil := (at1.bl hb12).lt
    have j0 := (hb12.cell hl0).trans at0
    go_wp2_with fail
    refine (hfi.out _ (hbW.trans hb12)).mono ?_
    rintro e w3 ⟨FA, fc, rfl, -, -, -, hb3⟩
    obtain ⟨V3, hV3⟩ : ∃ V3, V3 = w3.alloc (.cells #[Value.int IntKind.u8 fo.kind, Value.int IntKind.u32 fo.id.t, Value.int IntKind.u8 fo.id.r, Value.slice FA fo.pl.length fc, Value.int IntKind.i64 fo.pt] 47) := ⟨_, rfl⟩
    have hb3V : Bl w3 V3 := by rw [hV3]; exact (Bl.refl _).alloc _
    have hbW3 := hb12.trans (hb3.trans hb3V)
    have hbw3 := hbW.trans hbW3
    have at03 := (hbW3.cell hl0).trans at0
    have at13 := at1.bl hbW3
    clear i0 i1 i2 i3 i4 hil j0
    go_upto_region 4 with fail
    rw [← hV3]
    clear hV3
    obtain ⟨i0, i1, i2, i3, i4⟩ := at13.cells
    have hil := at13.lt
    have hcl := hide (hli.out V3 hbw3 at03 at13)
    go_wp2_with fail
    refine hcl.out.mono ?_
    rintro e w4 ⟨rfl, hb4⟩
    clear i0 i1 i2 i3 i4 hil
    replace at03 := ((hb4).cell (World.block_lt_of_cell? _ _ at03)).trans at03
    obtain ⟨i0, i1, i2, i3, i4⟩ := (at13.bl hb4).cells
    have hil := (at13.bl hb4).lt
    go_wp2_with fail
    refine (hjo.out _ (hbw3.trans hb4)).mono ?_
    rintro e w5 ⟨X, x, rfl, x1, x2, hX, hb5⟩
    go_wp2_with fail
    go_ret2
    exact ⟨X, x, rfl, x1, x2, hX.more (hbw3.trans hb4).size, (hbw3.trans hb4).trans hb5⟩

end Go.Proofs.YteoodmilcpmmpaaGreat

namespace Go.Proofs.YteoodmilcpmmpaaGreat

open Go.RowKit

end Go.Proofs.YteoodmilcpmmpaaGreat

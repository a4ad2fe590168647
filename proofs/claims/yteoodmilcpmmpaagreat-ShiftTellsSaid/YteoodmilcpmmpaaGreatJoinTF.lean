/-
  The walk of shift.joined, where the section alone is here.
  The walk of shift.joined, where what is ahead of the section alone is here.
-/
import Derived.Test.YteoodmilcpmmpaaGreatShiftR
namespace Go.Proofs.YteoodmilcpmmpaaGreat

open Go.RowKit

set_option maxRecDepth 100000 in
set_option maxHeartbeats 16000000 in
theorem shiftJoinedFT (A B S : Option Addr) (c d sc : Nat) (l : List Op) (H : List Entry) (o : Op) (w : World) (hl : l.length ≤ maxLen) (hh : H.length ≤ 65) (hsm : smallS H) (hA : R cOp 0 w A l) (hB : R cEntry 0 w B H) (ho : OpIn w o S sc) (his0 : findB H (aheadS l (placeFin o.pl)) = false) (hwas0 : findB H (placeFin o.pl) = true) :
    Calls Tryz.prog 74 #[.slice A l.length c, .slice B H.length d, .agg #[.int .u8 o.kind, .int .u32 o.id.t, .int .u8 o.id.r, .slice S o.pl.length sc, .int .i64 o.pt]] w (New2 cEntry (joinEL l H o) (joinEN l H o) w) := by
  obtain ⟨W, hW⟩ : ∃ W, W = w.alloc (.cells #[Value.int IntKind.u8 o.kind, Value.int IntKind.u32 o.id.t, Value.int IntKind.u8 o.id.r, Value.slice S o.pl.length sc, Value.int IntKind.i64 o.pt] 47) := ⟨_, rfl⟩
  have hbW : Bl w W := by rw [hW]; exact (Bl.refl _).alloc _
  have at0 : OpBox W w.heap.size o S sc := by rw [hW]; exact OpBox.new w o S sc _
  have hla := hide (placeLast S sc o.pl W ho.small (ho.hR.bl hbW))
  have hmok := fin_ok ho.hR
  have haok := aheadS_ok hA.oksO (placeFin o.pl)
  have hah := hide fun V (hv : Bl w V) => homeAhead A c l (placeFin o.pl) V hl (hA.bl hv)
  have hfa := hide fun V (hv : Bl w V) => shelfFind B d H (aheadS l (placeFin o.pl)) V (by omega) haok (hB.bl hv)
  have hfm := hide fun V (hv : Bl w V) => shelfFind B d H (placeFin o.pl) V (by omega) hmok (hB.bl hv)
  have htw := hide fun V (hv : Bl w V) => shelfTwinO B d H V hsm (hB.bl hv)
  have hadd := hide fun V (hv : Bl w V) => bagAdd A S c sc l o V hl (hA.bl hv) (ho.bl hv)
  have hdr := hide fun V (hv : Bl w V) => shelfDrop B d H (placeFin o.pl) V (by omega) hmok (hB.bl hv)
  have hxok := findE_ok hB.oksE (aheadS l (placeFin o.pl))
  have hyok := findE_ok hB.oksE (placeFin o.pl)
  have hdl := dropL_len H (placeFin o.pl)
  obtain ⟨Z, hZ⟩ : ∃ Z, Z = joinZ l H o := ⟨_, rfl⟩
  obtain ⟨L, hL⟩ : ∃ L, L = joinEL l H o := ⟨_, rfl⟩
  obtain ⟨N, hN⟩ : ∃ N, N = joinEN l H o := ⟨_, rfl⟩
  rw [← hL, ← hN]
  unfold joinEL someB joinH at hL
  unfold joinEN someB joinH at hN
  rw [← hZ] at hL hN
  unfold joinZ at hZ
  have hwl := hide fun X x V (hX : R cOp 0 V X (addL l o)) (hN : addN l o = 0) => shiftWhole X x (addL l o) (aheadS l (placeFin o.pl)) V (by have := addL_small hN; omega) hX
  obtain ⟨x0, x1, x2, x3, x4⟩ := at0.cells
  have hxl := at0.lt
  rw [his0, hwas0] at hZ
  rw [his0, hwas0, if_pos (by decide)] at hL hN
  rw [his0] at hfa
  rw [hwas0] at hfm
  replace hL := hide hL
  generalize whereN l (placeFin o.pl) 1 = wn at *
  generalize aheadS l (placeFin o.pl) = a at *
  generalize placeFin o.pl = m at *
  generalize findE H a = x at *
  generalize findE H m = y at *
  generalize addL l o = l2 at *
  generalize addN l o = n2 at *
  generalize wholeB l2 a = wh at *
  replace hN := hide hN
  replace hZ := hide hZ
  go_enter Tryz.func74, Tryz.ntmps74
  go_wp2_with fail
  rw [← hW]
  clear hW
  refine hla.out.mono ?_
  rintro e w1 ⟨rfl, hb1⟩
  obtain ⟨V1, hV1⟩ : ∃ V1, V1 = w1.alloc (.cells #[Value.int IntKind.u32 m.t, Value.int IntKind.u8 m.r] 25) := ⟨_, rfl⟩
  have at1 : IdBox V1 w1.heap.size m := by rw [hV1]; exact IdBox.new w1 m _
  have hb1V : Bl w1 V1 := by rw [hV1]; exact (Bl.refl _).alloc _
  have hbW1 := hb1.trans hb1V
  clear x0 x1 x2 x3 x4 hxl hla
  go_wp2_with fail
  rw [← hV1]
  clear hV1
  refine (hah.out _ (hbW.trans hbW1)).mono ?_
  rintro e w2 ⟨rfl, hb2⟩
  obtain ⟨V2, hV2⟩ : ∃ V2, V2 = w2.alloc (.cells #[Value.int IntKind.u32 a.t, Value.int IntKind.u8 a.r] 25) := ⟨_, rfl⟩
  have at2 : IdBox V2 w2.heap.size a := by rw [hV2]; exact IdBox.new w2 a _
  have hb2V : Bl w2 V2 := by rw [hV2]; exact (Bl.refl _).alloc _
  have hb12 := hb2.trans hb2V
  have hbW2 := hbW1.trans hb12
  clear hah
  go_wp2_with fail
  rw [← hV2]
  clear hV2
  refine (hfa.out _ (hbW.trans hbW2)).mono ?_
  rintro e w3 ⟨XA, xc, XB, xd, rfl, -, -, -, -, -, -, hb3⟩
  obtain ⟨V3, hV3⟩ : ∃ V3, V3 = w3.alloc (.cells #[Value.int IntKind.u32 x.id.t, Value.int IntKind.u8 x.id.r, Value.bool x.ready, Value.bool x.pin, Value.int IntKind.i64 x.used, Value.bool x.known, Value.slice XA x.snap.length xc, Value.slice XB x.got.length xd] 62) := ⟨_, rfl⟩
  have at3 : EntAt V3 w3.heap.size x XA xc XB xd := by rw [hV3]; exact EntAt.new w3 x XA xc XB xd _
  have hb3V : Bl w3 V3 := by rw [hV3]; exact (Bl.refl _).alloc _
  have hb23 := hb3.trans hb3V
  obtain ⟨i0, i1, -, -⟩ := at1.bl (hb12.trans hb23)
  have hil := (at1.bl (hb12.trans hb23)).lt
  clear hfa
  go_upto_region 4 with fail
  rw [← hV3]
  clear hV3
  go_wp2_with fail
  refine (hfm.out _ (hbW.trans (hbW2.trans hb23))).mono ?_
  rintro e w4 ⟨YA, yc, YB, yd, rfl, -, -, -, -, -, -, hb4⟩
  obtain ⟨V4, hV4⟩ : ∃ V4, V4 = w4.alloc (.cells #[Value.int IntKind.u32 y.id.t, Value.int IntKind.u8 y.id.r, Value.bool y.ready, Value.bool y.pin, Value.int IntKind.i64 y.used, Value.bool y.known, Value.slice YA y.snap.length yc, Value.slice YB y.got.length yd] 62) := ⟨_, rfl⟩
  have at4 : EntAt V4 w4.heap.size y YA yc YB yd := by rw [hV4]; exact EntAt.new w4 y YA yc YB yd _
  have hb4V : Bl w4 V4 := by rw [hV4]; exact (Bl.refl _).alloc _
  have hb34 := hb3V.trans (hb4.trans hb4V)
  have at34 := at3.bl (hb4.trans hb4V)
  have hY4 : w3.heap.size < w4.heap.size := Nat.lt_of_lt_of_le at3.lt hb4.size
  have hbW3 := hbW2.trans hb3
  clear hfm i0 i1 hil
  have hg1 : (!false && !true) = false := rfl
  clear htw his0 hwas0
  go_wp2_with fail
  rw [← hV4]
  clear hV4 hg1
  refine (shiftBlank at34).mono ?_
  rintro e w5 ⟨rfl, hw5⟩
  have at5 := set3_at at34
  have hb5 := set3_bl hb34 (Nat.le_refl _)
  have at45 := set3_other at4 (Nat.ne_of_lt hY4)
  rw [← hw5] at at5 hb5 at45
  clear hw5 at34 at4 hb34
  have hbW5 := hbW3.trans hb5
  obtain ⟨x0, x1, x2, x3, x4⟩ := (at0.bl hbW5).cells
  have hxl := (at0.bl hbW5).lt
  go_wp2_with fail
  refine (hadd.out _ (hbW.trans hbW5)).mono ?_
  rintro e w6 ⟨M, mc, rfl, m1, m2, hM, hb6⟩
  clear x0 x1 x2 x3 x4 hxl hadd
  by_cases hn2 : n2 = 0
  rotate_left
  · replace hL := hL.out
    replace hN := hN.out
    rw [if_neg hn2] at hL hN
    have hNz : (n2 == 0) = false := by rw [beq_eq_false_iff_ne]; exact hn2
    subst hL hN
    go_wp2_with fail
    go_ret2
    exact ⟨none, 0, rfl, Nat.le_refl _, Nat.zero_le _, R.nil, hbW.trans (hbW5.trans hb6)⟩
  replace hL := hL.out
  replace hN := hN.out
  rw [if_pos hn2] at hL hN
  replace hL := hide hL
  replace hN := hide hN
  have hwh := hide fun V (hv : Bl w6 V) => hwl.out M mc V (hM.zero.bl hv) hn2
  subst hn2
  have at6 := at5.bl hb6
  have at46 := at45.bl hb6
  have hb36 := hb5.trans hb6
  have hbW6 := hbW3.trans hb36
  obtain ⟨i0, i1, -, -⟩ := at2.bl (hb3.trans hb36)
  have hil := (at2.bl (hb3.trans hb36)).lt
  obtain ⟨x0, x1, x2, x3, x4, x5, x6, x7⟩ := at6.cells
  obtain ⟨f0, f1, f2, f3, f4, f5, f6, f7⟩ := at6.frozens
  have hxl := at6.lt
  obtain ⟨y0, y1, y2, y3, y4, y5, y6, y7⟩ := at46.cells
  have hyl := at46.lt
  go_upto_region 11 with fail
  have hz0 : Z.known = false ∧ Z.snap = [] ∧ Z.got = [] := by rw [hZ.out]; exact ⟨rfl, rfl, rfl⟩
  have hzok : Z.ok := by
    rw [hZ.out]
    refine ⟨haok, ?_⟩
    obtain ⟨u1, u2⟩ := hxok.2
    obtain ⟨u3, u4⟩ := hyok.2
    unfold i64ok
    dsimp only
    omega
  have hzh : ∀ V : World, Held V Z none 0 none 0 := fun V => by
    obtain ⟨-, h1, h2⟩ := hz0
    refine ⟨?_, Nat.zero_le _, ?_, Nat.zero_le _, ?_, ?_⟩
    · rw [h1]; exact Nat.le_refl _
    · rw [h2]; exact Nat.le_refl _
    · rw [h1]; exact R.nil
    · rw [h2]; exact R.nil
  replace hzh := hide hzh
  go_cut [] from 56 to 88 (fun wx => EntAt wx w3.heap.size Z none 0 none 0 ∧ Bl w3 wx)
  case first =>
    replace at6 := hide at6
    replace at46 := hide at46
    dsimp only [blankE] at x0 x1 x2 x3 x4 x5 x6 x7
    replace hZ := hZ.out
    obtain ⟨px, hpx⟩ : ∃ b, x.pin = b := ⟨_, rfl⟩
    obtain ⟨rx, hrx⟩ : ∃ b, x.ready = b := ⟨_, rfl⟩
    obtain ⟨ry, hry⟩ : ∃ b, y.ready = b := ⟨_, rfl⟩
    rw [hpx] at x3 hZ
    rw [hrx] at x2 hZ
    rw [hry] at y2 hZ
    have n23 : w2.heap.size ≠ w3.heap.size := by
      have h1 := at2.lt
      have h2 := hb3.size
      omega
    have n43 : w4.heap.size ≠ w3.heap.size := by omega
    have hG : W6F w2.heap.size w3.heap.size w4.heap.size a rx px x.used ry y.pin y.used w6.drew := ⟨i0, i1, x2, x3, x4, y2, y3, y4⟩
    have hkeep := fun (V : World) (h : W6F w2.heap.size w3.heap.size w4.heap.size a rx px x.used ry y.pin y.used V) => HoldT.two (n1 := 32) (n2 := 36) (F1 := W6F w2.heap.size w3.heap.size w4.heap.size a rx px x.used ry y.pin y.used) (F2 := Y2F w4.heap.size y.pin y.used) h ⟨h.2.2.2.2.2.2.1, h.2.2.2.2.2.2.2⟩
    have hsetM := fun (V : World) (hV : Y2F w4.heap.size y.pin y.used V) (j : Nat) (u : Value) => Y2F.set n43 hV (j := j) u
    have hF := hkeep _ hG
    have hsetF := fun (V : World) (hV : W6F w2.heap.size w3.heap.size w4.heap.size a rx px x.used ry y.pin y.used V) => W6F.set n23 n43 hV a
    have hat := fun (V : World) (hV : Bl w6 V) => set4_at (z := Z) (at6.out.bl hV) hz0
    have hbs := fun (V : World) (hV : Bl w6 V) => set4_bl (z := Z) (hb36.trans hV) (Nat.le_refl _)
    replace hpx := hide hpx
    replace hrx := hide hrx
    replace hry := hide hry
    replace hZ := hide hZ
    refine wp_region_tail [(32, W6F w2.heap.size w3.heap.size w4.heap.size a rx px x.used ry y.pin y.used), (36, Y2F w4.heap.size y.pin y.used)] (by kernel_rfl) ?_
    try (change wpAnyT _ _ _ _ _ _ _ _ (World.drew _))
    cases px
    · refine wpAnyT_take (i := 0) (v := ?_) (List.mem_cons_self ..) rfl (by kernel_rfl) (by kernel_rfl) (by kernel_rfl) (by kernel_rfl) (fun _ _ _ h => h) (Or.inl ⟨by kernel_rfl, by rintro w ⟨g0, g1, g2, g3, g4, g5, g6, g7⟩; go_simp; try with_reducible rfl⟩) (hF _) ?_
      refine wpAnyT_pure (i := 1) (v := ?_) rfl (by kernel_rfl) (by kernel_rfl) (by kernel_rfl) (by kernel_rfl) (fun _ _ _ h => h) (Or.inl ⟨by kernel_rfl, by intro w _; go_simp; try with_reducible rfl⟩) (hF _) ?_
      refine wpAnyT_pure (i := 2) (v := ?_) rfl (by kernel_rfl) (by kernel_rfl) (by kernel_rfl) (by kernel_rfl) (fun _ _ _ h => h) (Or.inl ⟨by kernel_rfl, by intro w _; go_simp; try with_reducible rfl⟩) (hF _) ?_
      refine wpAnyT_pure (i := 3) (v := undef) rfl (by kernel_rfl) (by kernel_rfl) (by kernel_rfl) (by kernel_rfl) (fun _ _ _ h => h) (Or.inr ⟨by kernel_rfl, rfl⟩) (hF _) ?_
      refine wpAnyT_pure (i := 4) (v := ?_) rfl (by kernel_rfl) (by kernel_rfl) (by kernel_rfl) (by kernel_rfl) (fun _ _ _ h => h) (Or.inl ⟨by kernel_rfl, by intro w _; go_simp; try with_reducible rfl⟩) (hF _) ?_
      refine wpAnyT_pure (i := 5) (v := ?_) rfl (by kernel_rfl) (by kernel_rfl) (by kernel_rfl) (by kernel_rfl) (fun _ _ _ h => h) (Or.inl ⟨by kernel_rfl, by intro w _; go_simp; try with_reducible rfl⟩) (hF _) ?_
      refine wpAnyT_pure (i := 6) (v := undef) rfl (by kernel_rfl) (by kernel_rfl) (by kernel_rfl) (by kernel_rfl) (fun _ _ _ h => h) (Or.inr ⟨by kernel_rfl, rfl⟩) (hF _) ?_
      refine wpAnyT_pure (i := 7) (v := undef) rfl (by kernel_rfl) (by kernel_rfl) (by kernel_rfl) (by kernel_rfl) (fun _ _ _ h => h) (Or.inr ⟨by kernel_rfl, rfl⟩) (hF _) ?_
      refine wpAnyT_pure (i := 8) (v := ?_) rfl (by kernel_rfl) (by kernel_rfl) (by kernel_rfl) (by kernel_rfl) (fun _ _ _ h => h) (Or.inl ⟨by kernel_rfl, by intro w _; go_simp; try with_reducible rfl⟩) (hF _) ?_
      refine wpAnyT_pure (i := 9) (v := ?_) rfl (by kernel_rfl) (by kernel_rfl) (by kernel_rfl) (by kernel_rfl) (fun _ _ _ h => h) (Or.inl ⟨by kernel_rfl, by intro w _; go_simp; try with_reducible rfl⟩) (hF _) ?_
      refine wpAnyT_pure (i := 10) (v := undef) rfl (by kernel_rfl) (by kernel_rfl) (by kernel_rfl) (by kernel_rfl) (fun _ _ _ h => h) (Or.inr ⟨by kernel_rfl, rfl⟩) (hF _) ?_
      refine wpAnyT_pure (i := 11) (v := undef) rfl (by kernel_rfl) (by kernel_rfl) (by kernel_rfl) (by kernel_rfl) (fun _ _ _ h => h) (Or.inr ⟨by kernel_rfl, rfl⟩) (hF _) ?_
      refine wpAnyT_pure (i := 12) (v := ?_) rfl (by kernel_rfl) (by kernel_rfl) (by kernel_rfl) (by kernel_rfl) (fun _ _ _ h => h) (Or.inl ⟨by kernel_rfl, by intro w _; go_simp; try with_reducible rfl⟩) (hF _) ?_
      refine wpAnyT_pure (i := 13) (v := ?_) rfl (by kernel_rfl) (by kernel_rfl) (by kernel_rfl) (by kernel_rfl) (fun _ _ _ h => h) (Or.inl ⟨by kernel_rfl, by intro w _; go_simp; try with_reducible rfl⟩) (hF _) ?_
      refine wpAnyT_pure (i := 14) (v := undef) rfl (by kernel_rfl) (by kernel_rfl) (by kernel_rfl) (by kernel_rfl) (fun _ _ _ h => h) (Or.inr ⟨by kernel_rfl, rfl⟩) (hF _) ?_
      refine wpAnyT_pure (i := 15) (v := undef) rfl (by kernel_rfl) (by kernel_rfl) (by kernel_rfl) (by kernel_rfl) (fun _ _ _ h => h) (Or.inr ⟨by kernel_rfl, rfl⟩) (hF _) ?_
      refine wpAnyT_pure (i := 18) (v := ?_) rfl (by kernel_rfl) (by kernel_rfl) (by kernel_rfl) (by kernel_rfl) (fun _ _ _ h => h) (Or.inl ⟨by kernel_rfl, by intro w _; go_simp; try with_reducible rfl⟩) (hF _) ?_
      refine wpAnyT_take (i := 19) (v := ?_) (List.mem_cons_self ..) rfl (by kernel_rfl) (by kernel_rfl) (by kernel_rfl) (by kernel_rfl) (fun _ _ _ h => h) (Or.inl ⟨by kernel_rfl, by rintro w ⟨g0, g1, g2, g3, g4, g5, g6, g7⟩; go_simp; try with_reducible rfl⟩) (hF _) ?_
      refine wpAnyT_pure (i := 24) (v := ?_) rfl (by kernel_rfl) (by kernel_rfl) (by kernel_rfl) (by kernel_rfl) (fun _ _ _ h => h) (Or.inl ⟨by kernel_rfl, by intro w _; go_simp; try with_reducible rfl⟩) (hF _) ?_
      refine wpAnyT_take (i := 25) (v := ?_) (List.mem_cons_self ..) rfl (by kernel_rfl) (by kernel_rfl) (by kernel_rfl) (by kernel_rfl) (fun _ _ _ h => h) (Or.inl ⟨by kernel_rfl, by rintro w ⟨g0, g1, g2, g3, g4, g5, g6, g7⟩; go_simp; try with_reducible rfl⟩) (hF _) ?_
      refine wpAnyT_pure (i := 26) (v := ?_) rfl (by kernel_rfl) (by kernel_rfl) (by kernel_rfl) (by kernel_rfl) (fun _ _ _ h => h) (Or.inl ⟨by kernel_rfl, by intro w _; go_simp; try with_reducible rfl⟩) (hF _) ?_
      refine wpAnyT_take (i := 27) (v := ?_) (List.mem_cons_of_mem _ (List.mem_cons_self ..)) rfl (by kernel_rfl) (by kernel_rfl) (by kernel_rfl) (by kernel_rfl) (fun _ _ _ h => h) (Or.inl ⟨by kernel_rfl, by rintro w ⟨g6, g7⟩; go_simp; try with_reducible rfl⟩) (hF _) ?_
      refine wpAnyT_pure (i := 28) (v := ?_) rfl (by kernel_rfl) (by kernel_rfl) (by kernel_rfl) (by kernel_rfl) (fun _ _ _ h => h) (Or.inl ⟨by kernel_rfl, by intro w _; go_simp; try with_reducible rfl⟩) (hF _) ?_
      refine wpAnyT_pure (i := 16) (v := undef) rfl (by kernel_rfl) (by kernel_rfl) (by kernel_rfl) (by kernel_rfl) (fun _ _ _ h => h) (Or.inr ⟨by kernel_rfl, rfl⟩) (hF _) ?_
      refine wpAnyT_pure (i := 17) (v := ?_) rfl (by kernel_rfl) (by kernel_rfl) (by kernel_rfl) (by kernel_rfl) (fun _ _ _ h => h) (Or.inl ⟨by kernel_rfl, by intro w _; go_simp; try with_reducible rfl⟩) (hF _) ?_
      refine wpAnyT_pure (i := 20) (v := ?_) rfl (by kernel_rfl) (by kernel_rfl) (by kernel_rfl) (by kernel_rfl) (fun _ _ _ h => h) (Or.inl ⟨by kernel_rfl, by intro w _; go_simp; try with_reducible rfl⟩) (hF _) ?_
      refine wpAnyT_pure (i := 21) (v := ?_) rfl (by kernel_rfl) (by kernel_rfl) (by kernel_rfl) (by kernel_rfl) (fun _ _ _ h => h) (Or.inl ⟨by kernel_rfl, by intro w _; go_simp; try with_reducible rfl⟩) (hF _) ?_
      refine wpAnyT_take (i := 22) (v := ?_) (List.mem_cons_of_mem _ (List.mem_cons_self ..)) rfl (by kernel_rfl) (by kernel_rfl) (by kernel_rfl) (by kernel_rfl) (fun _ _ _ h => h) (Or.inl ⟨by kernel_rfl, by rintro w ⟨g6, g7⟩; go_simp; try with_reducible rfl⟩) (hF _) ?_
      refine wpAnyT_pure (i := 23) (v := ?_) rfl (by kernel_rfl) (by kernel_rfl) (by kernel_rfl) (by kernel_rfl) (fun _ _ _ h => h) (Or.inl ⟨by kernel_rfl, by intro w _; go_simp; try with_reducible rfl⟩) (hF _) ?_
      refine wpAnyT_pure (i := 29) (v := ?_) rfl (by kernel_rfl) (by kernel_rfl) (by kernel_rfl) (by kernel_rfl) (fun _ _ _ h => h) (Or.inl ⟨by kernel_rfl, by intro w _; go_simp; try with_reducible rfl⟩) (hF _) ?_
      refine wpAnyT_ready (rs := [30]) (by kernel_rfl) (by simp) ?_
      refine AllReadyT.cons rfl (fun K hK => ?_) AllReadyT.nil
      go_simp
      refine hK _ _ ⟨hkeep _ (hsetF _ hG) _, ?_⟩
      clear hK K
      replace hG := hsetF _ hG
      replace hF := hkeep _ hG
      have hM := W6F.two hG
      refine wpAnyT_pure (i := 31) (v := ?_) rfl (by kernel_rfl) (by kernel_rfl) (by kernel_rfl) (by kernel_rfl) (fun _ _ _ h => h) (Or.inl ⟨by kernel_rfl, by intro w _; go_simp; try with_reducible rfl⟩) (hF _) ?_
      refine wpAnyT_ready (rs := [32]) (by kernel_rfl) (by simp) ?_
      refine AllReadyT.cons rfl (fun K hK => ?_) AllReadyT.nil
      go_simp
      refine hK _ _ ⟨HoldT.second (by kernel_rfl) (hsetM _ hM _ _), ?_⟩
      clear hK K
      refine wpAnyT_pure (i := 33) (v := ?_) rfl (by kernel_rfl) (by kernel_rfl) (by kernel_rfl) (by kernel_rfl) (fun _ _ _ h => h) (Or.inl ⟨by kernel_rfl, by intro w _; go_simp; try with_reducible rfl⟩) (HoldT.second (by kernel_rfl) (hsetM _ hM _ _)) ?_
      refine wpAnyT_ready (rs := [34]) (by kernel_rfl) (by simp) ?_
      refine AllReadyT.cons rfl (fun K hK => ?_) AllReadyT.nil
      go_simp
      refine hK _ _ ⟨HoldT.second (by kernel_rfl) (hsetM _ (hsetM _ hM _ _) _ _), ?_⟩
      clear hK K
      refine wpAnyT_pure (i := 35) (v := ?_) rfl (by kernel_rfl) (by kernel_rfl) (by kernel_rfl) (by kernel_rfl) (fun _ _ _ h => h) (Or.inl ⟨by kernel_rfl, by intro w _; go_simp; try with_reducible rfl⟩) (HoldT.second (by kernel_rfl) (hsetM _ (hsetM _ hM _ _) _ _)) ?_
      refine wpAnyT_ready (rs := [36]) (by kernel_rfl) (by simp) ?_
      refine AllReadyT.cons rfl (fun K hK => ?_) AllReadyT.nil
      go_simp
      refine hK _ _ ⟨HoldT.none (by kernel_rfl), ?_⟩
      clear hK K
      refine wpAnyT_done (by kernel_rfl) ?_ _
      go_wp2_with fail
      go_meet
      have z1 := (hat w6 (Bl.refl w6)).bl (Bl.refl _).drew
      have z2 := (hbs w6 (Bl.refl w6)).drew
      rw [hZ.out] at z1 z2 ⊢
      exact ⟨z1, z2⟩
    · refine wpAnyT_take (i := 0) (v := ?_) (List.mem_cons_self ..) rfl (by kernel_rfl) (by kernel_rfl) (by kernel_rfl) (by kernel_rfl) (fun _ _ _ h => h) (Or.inl ⟨by kernel_rfl, by rintro w ⟨g0, g1, g2, g3, g4, g5, g6, g7⟩; go_simp; try with_reducible rfl⟩) (hF _) ?_
      refine wpAnyT_pure (i := 1) (v := ?_) rfl (by kernel_rfl) (by kernel_rfl) (by kernel_rfl) (by kernel_rfl) (fun _ _ _ h => h) (Or.inl ⟨by kernel_rfl, by intro w _; go_simp; try with_reducible rfl⟩) (hF _) ?_
      refine wpAnyT_pure (i := 2) (v := ?_) rfl (by kernel_rfl) (by kernel_rfl) (by kernel_rfl) (by kernel_rfl) (fun _ _ _ h => h) (Or.inl ⟨by kernel_rfl, by intro w _; go_simp; try with_reducible rfl⟩) (hF _) ?_
      refine wpAnyT_pure (i := 3) (v := undef) rfl (by kernel_rfl) (by kernel_rfl) (by kernel_rfl) (by kernel_rfl) (fun _ _ _ h => h) (Or.inr ⟨by kernel_rfl, rfl⟩) (hF _) ?_
      refine wpAnyT_pure (i := 4) (v := ?_) rfl (by kernel_rfl) (by kernel_rfl) (by kernel_rfl) (by kernel_rfl) (fun _ _ _ h => h) (Or.inl ⟨by kernel_rfl, by intro w _; go_simp; try with_reducible rfl⟩) (hF _) ?_
      refine wpAnyT_pure (i := 5) (v := ?_) rfl (by kernel_rfl) (by kernel_rfl) (by kernel_rfl) (by kernel_rfl) (fun _ _ _ h => h) (Or.inl ⟨by kernel_rfl, by intro w _; go_simp; try with_reducible rfl⟩) (hF _) ?_
      refine wpAnyT_pure (i := 6) (v := undef) rfl (by kernel_rfl) (by kernel_rfl) (by kernel_rfl) (by kernel_rfl) (fun _ _ _ h => h) (Or.inr ⟨by kernel_rfl, rfl⟩) (hF _) ?_
      refine wpAnyT_pure (i := 7) (v := undef) rfl (by kernel_rfl) (by kernel_rfl) (by kernel_rfl) (by kernel_rfl) (fun _ _ _ h => h) (Or.inr ⟨by kernel_rfl, rfl⟩) (hF _) ?_
      refine wpAnyT_pure (i := 8) (v := ?_) rfl (by kernel_rfl) (by kernel_rfl) (by kernel_rfl) (by kernel_rfl) (fun _ _ _ h => h) (Or.inl ⟨by kernel_rfl, by intro w _; go_simp; try with_reducible rfl⟩) (hF _) ?_
      refine wpAnyT_pure (i := 9) (v := ?_) rfl (by kernel_rfl) (by kernel_rfl) (by kernel_rfl) (by kernel_rfl) (fun _ _ _ h => h) (Or.inl ⟨by kernel_rfl, by intro w _; go_simp; try with_reducible rfl⟩) (hF _) ?_
      refine wpAnyT_pure (i := 10) (v := undef) rfl (by kernel_rfl) (by kernel_rfl) (by kernel_rfl) (by kernel_rfl) (fun _ _ _ h => h) (Or.inr ⟨by kernel_rfl, rfl⟩) (hF _) ?_
      refine wpAnyT_pure (i := 11) (v := undef) rfl (by kernel_rfl) (by kernel_rfl) (by kernel_rfl) (by kernel_rfl) (fun _ _ _ h => h) (Or.inr ⟨by kernel_rfl, rfl⟩) (hF _) ?_
      refine wpAnyT_pure (i := 12) (v := ?_) rfl (by kernel_rfl) (by kernel_rfl) (by kernel_rfl) (by kernel_rfl) (fun _ _ _ h => h) (Or.inl ⟨by kernel_rfl, by intro w _; go_simp; try with_reducible rfl⟩) (hF _) ?_
      refine wpAnyT_pure (i := 13) (v := ?_) rfl (by kernel_rfl) (by kernel_rfl) (by kernel_rfl) (by kernel_rfl) (fun _ _ _ h => h) (Or.inl ⟨by kernel_rfl, by intro w _; go_simp; try with_reducible rfl⟩) (hF _) ?_
      refine wpAnyT_pure (i := 14) (v := undef) rfl (by kernel_rfl) (by kernel_rfl) (by kernel_rfl) (by kernel_rfl) (fun _ _ _ h => h) (Or.inr ⟨by kernel_rfl, rfl⟩) (hF _) ?_
      refine wpAnyT_pure (i := 15) (v := undef) rfl (by kernel_rfl) (by kernel_rfl) (by kernel_rfl) (by kernel_rfl) (fun _ _ _ h => h) (Or.inr ⟨by kernel_rfl, rfl⟩) (hF _) ?_
      refine wpAnyT_pure (i := 18) (v := ?_) rfl (by kernel_rfl) (by kernel_rfl) (by kernel_rfl) (by kernel_rfl) (fun _ _ _ h => h) (Or.inl ⟨by kernel_rfl, by intro w _; go_simp; try with_reducible rfl⟩) (hF _) ?_
      refine wpAnyT_take (i := 19) (v := ?_) (List.mem_cons_self ..) rfl (by kernel_rfl) (by kernel_rfl) (by kernel_rfl) (by kernel_rfl) (fun _ _ _ h => h) (Or.inl ⟨by kernel_rfl, by rintro w ⟨g0, g1, g2, g3, g4, g5, g6, g7⟩; go_simp; try with_reducible rfl⟩) (hF _) ?_
      refine wpAnyT_pure (i := 24) (v := ?_) rfl (by kernel_rfl) (by kernel_rfl) (by kernel_rfl) (by kernel_rfl) (fun _ _ _ h => h) (Or.inl ⟨by kernel_rfl, by intro w _; go_simp; try with_reducible rfl⟩) (hF _) ?_
      refine wpAnyT_take (i := 25) (v := ?_) (List.mem_cons_self ..) rfl (by kernel_rfl) (by kernel_rfl) (by kernel_rfl) (by kernel_rfl) (fun _ _ _ h => h) (Or.inl ⟨by kernel_rfl, by rintro w ⟨g0, g1, g2, g3, g4, g5, g6, g7⟩; go_simp; try with_reducible rfl⟩) (hF _) ?_
      refine wpAnyT_pure (i := 26) (v := ?_) rfl (by kernel_rfl) (by kernel_rfl) (by kernel_rfl) (by kernel_rfl) (fun _ _ _ h => h) (Or.inl ⟨by kernel_rfl, by intro w _; go_simp; try with_reducible rfl⟩) (hF _) ?_
      refine wpAnyT_take (i := 27) (v := ?_) (List.mem_cons_of_mem _ (List.mem_cons_self ..)) rfl (by kernel_rfl) (by kernel_rfl) (by kernel_rfl) (by kernel_rfl) (fun _ _ _ h => h) (Or.inl ⟨by kernel_rfl, by rintro w ⟨g6, g7⟩; go_simp; try with_reducible rfl⟩) (hF _) ?_
      refine wpAnyT_pure (i := 28) (v := ?_) rfl (by kernel_rfl) (by kernel_rfl) (by kernel_rfl) (by kernel_rfl) (fun _ _ _ h => h) (Or.inl ⟨by kernel_rfl, by intro w _; go_simp; try with_reducible rfl⟩) (hF _) ?_
      refine wpAnyT_pure (i := 16) (v := undef) rfl (by kernel_rfl) (by kernel_rfl) (by kernel_rfl) (by kernel_rfl) (fun _ _ _ h => h) (Or.inr ⟨by kernel_rfl, rfl⟩) (hF _) ?_
      refine wpAnyT_pure (i := 17) (v := ?_) rfl (by kernel_rfl) (by kernel_rfl) (by kernel_rfl) (by kernel_rfl) (fun _ _ _ h => h) (Or.inl ⟨by kernel_rfl, by intro w _; go_simp; try with_reducible rfl⟩) (hF _) ?_
      refine wpAnyT_pure (i := 20) (v := ?_) rfl (by kernel_rfl) (by kernel_rfl) (by kernel_rfl) (by kernel_rfl) (fun _ _ _ h => h) (Or.inl ⟨by kernel_rfl, by intro w _; go_simp; try with_reducible rfl⟩) (hF _) ?_
      refine wpAnyT_pure (i := 21) (v := undef) rfl (by kernel_rfl) (by kernel_rfl) (by kernel_rfl) (by kernel_rfl) (fun _ _ _ h => h) (Or.inr ⟨by kernel_rfl, rfl⟩) (hF _) ?_
      refine wpAnyT_pure (i := 22) (v := undef) rfl (by kernel_rfl) (by kernel_rfl) (by kernel_rfl) (by kernel_rfl) (fun _ _ _ h => h) (Or.inr ⟨by kernel_rfl, rfl⟩) (hF _) ?_
      refine wpAnyT_pure (i := 23) (v := ?_) rfl (by kernel_rfl) (by kernel_rfl) (by kernel_rfl) (by kernel_rfl) (fun _ _ _ h => h) (Or.inl ⟨by kernel_rfl, by intro w _; go_simp; try with_reducible rfl⟩) (hF _) ?_
      refine wpAnyT_pure (i := 29) (v := ?_) rfl (by kernel_rfl) (by kernel_rfl) (by kernel_rfl) (by kernel_rfl) (fun _ _ _ h => h) (Or.inl ⟨by kernel_rfl, by intro w _; go_simp; try with_reducible rfl⟩) (hF _) ?_
      refine wpAnyT_ready (rs := [30]) (by kernel_rfl) (by simp) ?_
      refine AllReadyT.cons rfl (fun K hK => ?_) AllReadyT.nil
      go_simp
      refine hK _ _ ⟨hkeep _ (hsetF _ hG) _, ?_⟩
      clear hK K
      replace hG := hsetF _ hG
      replace hF := hkeep _ hG
      have hM := W6F.two hG
      refine wpAnyT_pure (i := 31) (v := ?_) rfl (by kernel_rfl) (by kernel_rfl) (by kernel_rfl) (by kernel_rfl) (fun _ _ _ h => h) (Or.inl ⟨by kernel_rfl, by intro w _; go_simp; try with_reducible rfl⟩) (hF _) ?_
      refine wpAnyT_ready (rs := [32]) (by kernel_rfl) (by simp) ?_
      refine AllReadyT.cons rfl (fun K hK => ?_) AllReadyT.nil
      go_simp
      refine hK _ _ ⟨HoldT.second (by kernel_rfl) (hsetM _ hM _ _), ?_⟩
      clear hK K
      refine wpAnyT_pure (i := 33) (v := ?_) rfl (by kernel_rfl) (by kernel_rfl) (by kernel_rfl) (by kernel_rfl) (fun _ _ _ h => h) (Or.inl ⟨by kernel_rfl, by intro w _; go_simp; try with_reducible rfl⟩) (HoldT.second (by kernel_rfl) (hsetM _ hM _ _)) ?_
      refine wpAnyT_ready (rs := [34]) (by kernel_rfl) (by simp) ?_
      refine AllReadyT.cons rfl (fun K hK => ?_) AllReadyT.nil
      go_simp
      refine hK _ _ ⟨HoldT.second (by kernel_rfl) (hsetM _ (hsetM _ hM _ _) _ _), ?_⟩
      clear hK K
      refine wpAnyT_pure (i := 35) (v := ?_) rfl (by kernel_rfl) (by kernel_rfl) (by kernel_rfl) (by kernel_rfl) (fun _ _ _ h => h) (Or.inl ⟨by kernel_rfl, by intro w _; go_simp; try with_reducible rfl⟩) (HoldT.second (by kernel_rfl) (hsetM _ (hsetM _ hM _ _) _ _)) ?_
      refine wpAnyT_ready (rs := [36]) (by kernel_rfl) (by simp) ?_
      refine AllReadyT.cons rfl (fun K hK => ?_) AllReadyT.nil
      go_simp
      refine hK _ _ ⟨HoldT.none (by kernel_rfl), ?_⟩
      clear hK K
      refine wpAnyT_done (by kernel_rfl) ?_ _
      go_wp2_with fail
      go_meet
      have z1 := (hat w6 (Bl.refl w6)).bl (Bl.refl _).drew
      have z2 := (hbs w6 (Bl.refl w6)).drew
      rw [hZ.out] at z1 z2 ⊢
      exact ⟨z1, z2⟩
  case rest =>
    obtain ⟨at7, hb7⟩ := hcut
    clear i0 i1 hil x0 x1 x2 x3 x4 x5 x6 x7 f0 f1 f2 f3 f4 f5 f6 f7 hxl y0 y1 y2 y3 y4 y5 y6 y7 hyl
    replace hL := hL.out
    replace hN := hN.out
    simp only [if_true] at hL hN
    have hp := hide fun D dc V (hD : R cEntry 0 V D (dropL H m)) => shelfPut D dc (dropL H m) Z none none 0 0 V (by omega) hD hzok (hzh.out V)
    rw [← hL, ← hN] at hp
    obtain ⟨i0, i1, -, -⟩ := at1.bl (hb12.trans (hb3.trans hb7))
    have hil := (at1.bl (hb12.trans (hb3.trans hb7))).lt
    clear hL hN
    try clear hz0
    try clear hzok
    try clear hzh
    try clear hwh
    try clear hZ
    try clear hxok
    try clear hyok
    try clear haok
    try clear hmok
    try clear hM
    try clear at5
    try clear at45
    try clear at6
    try clear at46
    try clear hck
    try clear hsm
    try clear hdl
    try clear hh
    try clear hb5
    try clear hb6
    try clear hb36
    try clear m1
    try clear m2
    try clear hwl
    try clear hbW6
    try clear at2
    try clear at3
    try clear at4
    try clear at34
    go_wp2_with fail
    refine (hdr.out _ (hbW.trans (hbW3.trans hb7))).mono ?_
    rintro e w8 ⟨D, dc, rfl, d1, d2, hD, hb8⟩
    have hb38 := hb7.trans hb8
    obtain ⟨y0, y1, y2, y3, y4, y5, y6, y7⟩ := (at7.bl hb8).cells
    have hyl := (at7.bl hb8).lt
    clear i0 i1 hil
    go_wp2_with fail
    refine (hp.out D dc w8 hD.zero).mono ?_
    rintro e w9 ⟨X9, c9, rfl, r1, r2, hX9, hb9⟩
    go_wp2_with fail
    go_ret2
    exact ⟨X9, c9, rfl, r1, r2, hX9.more (hbW.trans (hbW3.trans hb38)).size, (hbW.trans (hbW3.trans hb38)).trans hb9⟩

end Go.Proofs.YteoodmilcpmmpaaGreat

namespace Go.Proofs.YteoodmilcpmmpaaGreat

open Go.RowKit

set_option maxRecDepth 100000 in
set_option maxHeartbeats 16000000 in
theorem shiftJoinedTF (A B S : Option Addr) (c d sc : Nat) (l : List Op) (H : List Entry) (o : Op) (w : World) (hl : l.length ≤ maxLen) (hh : H.length ≤ 65) (hsm : smallS H) (hA : R cOp 0 w A l) (hB : R cEntry 0 w B H) (ho : OpIn w o S sc) (his0 : findB H (aheadS l (placeFin o.pl)) = true) (hwas0 : findB H (placeFin o.pl) = false) :
    Calls Tryz.prog 74 #[.slice A l.length c, .slice B H.length d, .agg #[.int .u8 o.kind, .int .u32 o.id.t, .int .u8 o.id.r, .slice S o.pl.length sc, .int .i64 o.pt]] w (New2 cEntry (joinEL l H o) (joinEN l H o) w) := by
  obtain ⟨W, hW⟩ : ∃ W, W = w.alloc (.cells #[Value.int IntKind.u8 o.kind, Value.int IntKind.u32 o.id.t, Value.int IntKind.u8 o.id.r, Value.slice S o.pl.length sc, Value.int IntKind.i64 o.pt] 47) := ⟨_, rfl⟩
  have hbW : Bl w W := by rw [hW]; exact (Bl.refl _).alloc _
  have at0 : OpBox W w.heap.size o S sc := by rw [hW]; exact OpBox.new w o S sc _
  have hla := hide (placeLast S sc o.pl W ho.small (ho.hR.bl hbW))
  have hmok := fin_ok ho.hR
  have haok := aheadS_ok hA.oksO (placeFin o.pl)
  have hah := hide fun V (hv : Bl w V) => homeAhead A c l (placeFin o.pl) V hl (hA.bl hv)
  have hfa := hide fun V (hv : Bl w V) => shelfFind B d H (aheadS l (placeFin o.pl)) V (by omega) haok (hB.bl hv)
  have hfm := hide fun V (hv : Bl w V) => shelfFind B d H (placeFin o.pl) V (by omega) hmok (hB.bl hv)
  have htw := hide fun V (hv : Bl w V) => shelfTwinO B d H V hsm (hB.bl hv)
  have hadd := hide fun V (hv : Bl w V) => bagAdd A S c sc l o V hl (hA.bl hv) (ho.bl hv)
  have hdr := hide fun V (hv : Bl w V) => shelfDrop B d H (placeFin o.pl) V (by omega) hmok (hB.bl hv)
  have hxok := findE_ok hB.oksE (aheadS l (placeFin o.pl))
  have hyok := findE_ok hB.oksE (placeFin o.pl)
  have hdl := dropL_len H (placeFin o.pl)
  obtain ⟨Z, hZ⟩ : ∃ Z, Z = joinZ l H o := ⟨_, rfl⟩
  obtain ⟨L, hL⟩ : ∃ L, L = joinEL l H o := ⟨_, rfl⟩
  obtain ⟨N, hN⟩ : ∃ N, N = joinEN l H o := ⟨_, rfl⟩
  rw [← hL, ← hN]
  unfold joinEL someB joinH at hL
  unfold joinEN someB joinH at hN
  rw [← hZ] at hL hN
  unfold joinZ at hZ
  have hwl := hide fun X x V (hX : R cOp 0 V X (addL l o)) (hN : addN l o = 0) => shiftWhole X x (addL l o) (aheadS l (placeFin o.pl)) V (by have := addL_small hN; omega) hX
  obtain ⟨x0, x1, x2, x3, x4⟩ := at0.cells
  have hxl := at0.lt
  rw [his0, hwas0] at hZ
  rw [his0, hwas0, if_pos (by decide)] at hL hN
  rw [his0] at hfa
  rw [hwas0] at hfm
  replace hL := hide hL
  generalize whereN l (placeFin o.pl) 1 = wn at *
  generalize aheadS l (placeFin o.pl) = a at *
  generalize placeFin o.pl = m at *
  generalize findE H a = x at *
  generalize findE H m = y at *
  generalize addL l o = l2 at *
  generalize addN l o = n2 at *
  generalize wholeB l2 a = wh at *
  replace hN := hide hN
  replace hZ := hide hZ
  go_enter Tryz.func74, Tryz.ntmps74
  go_wp2_with fail
  rw [← hW]
  clear hW
  refine hla.out.mono ?_
  rintro e w1 ⟨rfl, hb1⟩
  obtain ⟨V1, hV1⟩ : ∃ V1, V1 = w1.alloc (.cells #[Value.int IntKind.u32 m.t, Value.int IntKind.u8 m.r] 25) := ⟨_, rfl⟩
  have at1 : IdBox V1 w1.heap.size m := by rw [hV1]; exact IdBox.new w1 m _
  have hb1V : Bl w1 V1 := by rw [hV1]; exact (Bl.refl _).alloc _
  have hbW1 := hb1.trans hb1V
  clear x0 x1 x2 x3 x4 hxl hla
  go_wp2_with fail
  rw [← hV1]
  clear hV1
  refine (hah.out _ (hbW.trans hbW1)).mono ?_
  rintro e w2 ⟨rfl, hb2⟩
  obtain ⟨V2, hV2⟩ : ∃ V2, V2 = w2.alloc (.cells #[Value.int IntKind.u32 a.t, Value.int IntKind.u8 a.r] 25) := ⟨_, rfl⟩
  have at2 : IdBox V2 w2.heap.size a := by rw [hV2]; exact IdBox.new w2 a _
  have hb2V : Bl w2 V2 := by rw [hV2]; exact (Bl.refl _).alloc _
  have hb12 := hb2.trans hb2V
  have hbW2 := hbW1.trans hb12
  clear hah
  go_wp2_with fail
  rw [← hV2]
  clear hV2
  refine (hfa.out _ (hbW.trans hbW2)).mono ?_
  rintro e w3 ⟨XA, xc, XB, xd, rfl, -, -, -, -, -, -, hb3⟩
  obtain ⟨V3, hV3⟩ : ∃ V3, V3 = w3.alloc (.cells #[Value.int IntKind.u32 x.id.t, Value.int IntKind.u8 x.id.r, Value.bool x.ready, Value.bool x.pin, Value.int IntKind.i64 x.used, Value.bool x.known, Value.slice XA x.snap.length xc, Value.slice XB x.got.length xd] 62) := ⟨_, rfl⟩
  have at3 : EntAt V3 w3.heap.size x XA xc XB xd := by rw [hV3]; exact EntAt.new w3 x XA xc XB xd _
  have hb3V : Bl w3 V3 := by rw [hV3]; exact (Bl.refl _).alloc _
  have hb23 := hb3.trans hb3V
  obtain ⟨i0, i1, -, -⟩ := at1.bl (hb12.trans hb23)
  have hil := (at1.bl (hb12.trans hb23)).lt
  clear hfa
  go_upto_region 4 with fail
  rw [← hV3]
  clear hV3
  go_wp2_with fail
  refine (hfm.out _ (hbW.trans (hbW2.trans hb23))).mono ?_
  rintro e w4 ⟨YA, yc, YB, yd, rfl, -, -, -, -, -, -, hb4⟩
  obtain ⟨V4, hV4⟩ : ∃ V4, V4 = w4.alloc (.cells #[Value.int IntKind.u32 y.id.t, Value.int IntKind.u8 y.id.r, Value.bool y.ready, Value.bool y.pin, Value.int IntKind.i64 y.used, Value.bool y.known, Value.slice YA y.snap.length yc, Value.slice YB y.got.length yd] 62) := ⟨_, rfl⟩
  have at4 : EntAt V4 w4.heap.size y YA yc YB yd := by rw [hV4]; exact EntAt.new w4 y YA yc YB yd _
  have hb4V : Bl w4 V4 := by rw [hV4]; exact (Bl.refl _).alloc _
  have hb34 := hb3V.trans (hb4.trans hb4V)
  have at34 := at3.bl (hb4.trans hb4V)
  have hY4 : w3.heap.size < w4.heap.size := Nat.lt_of_lt_of_le at3.lt hb4.size
  have hbW3 := hbW2.trans hb3
  clear hfm i0 i1 hil
  have hg1 : (!true && !false) = false := rfl
  clear htw his0 hwas0
  go_wp2_with fail
  rw [← hV4]
  clear hV4 hg1
  refine (shiftBlank at34).mono ?_
  rintro e w5 ⟨rfl, hw5⟩
  have at5 := set3_at at34
  have hb5 := set3_bl hb34 (Nat.le_refl _)
  have at45 := set3_other at4 (Nat.ne_of_lt hY4)
  rw [← hw5] at at5 hb5 at45
  clear hw5 at34 at4 hb34
  have hbW5 := hbW3.trans hb5
  obtain ⟨x0, x1, x2, x3, x4⟩ := (at0.bl hbW5).cells
  have hxl := (at0.bl hbW5).lt
  go_wp2_with fail
  refine (hadd.out _ (hbW.trans hbW5)).mono ?_
  rintro e w6 ⟨M, mc, rfl, m1, m2, hM, hb6⟩
  clear x0 x1 x2 x3 x4 hxl hadd
  by_cases hn2 : n2 = 0
  rotate_left
  · replace hL := hL.out
    replace hN := hN.out
    rw [if_neg hn2] at hL hN
    have hNz : (n2 == 0) = false := by rw [beq_eq_false_iff_ne]; exact hn2
    subst hL hN
    go_wp2_with fail
    go_ret2
    exact ⟨none, 0, rfl, Nat.le_refl _, Nat.zero_le _, R.nil, hbW.trans (hbW5.trans hb6)⟩
  replace hL := hL.out
  replace hN := hN.out
  rw [if_pos hn2] at hL hN
  replace hL := hide hL
  replace hN := hide hN
  have hwh := hide fun V (hv : Bl w6 V) => hwl.out M mc V (hM.zero.bl hv) hn2
  subst hn2
  have at6 := at5.bl hb6
  have at46 := at45.bl hb6
  have hb36 := hb5.trans hb6
  have hbW6 := hbW3.trans hb36
  obtain ⟨i0, i1, -, -⟩ := at2.bl (hb3.trans hb36)
  have hil := (at2.bl (hb3.trans hb36)).lt
  obtain ⟨x0, x1, x2, x3, x4, x5, x6, x7⟩ := at6.cells
  obtain ⟨f0, f1, f2, f3, f4, f5, f6, f7⟩ := at6.frozens
  have hxl := at6.lt
  obtain ⟨y0, y1, y2, y3, y4, y5, y6, y7⟩ := at46.cells
  have hyl := at46.lt
  go_upto_region 11 with fail
  have hz0 : Z.known = false ∧ Z.snap = [] ∧ Z.got = [] := by rw [hZ.out]; exact ⟨rfl, rfl, rfl⟩
  have hzok : Z.ok := by
    rw [hZ.out]
    refine ⟨haok, ?_⟩
    obtain ⟨u1, u2⟩ := hxok.2
    obtain ⟨u3, u4⟩ := hyok.2
    unfold i64ok
    dsimp only
    omega
  have hzh : ∀ V : World, Held V Z none 0 none 0 := fun V => by
    obtain ⟨-, h1, h2⟩ := hz0
    refine ⟨?_, Nat.zero_le _, ?_, Nat.zero_le _, ?_, ?_⟩
    · rw [h1]; exact Nat.le_refl _
    · rw [h2]; exact Nat.le_refl _
    · rw [h1]; exact R.nil
    · rw [h2]; exact R.nil
  replace hzh := hide hzh
  go_cut [] from 56 to 88 (fun wx => EntAt wx w3.heap.size Z none 0 none 0 ∧ Bl w3 wx)
  case first =>
    replace at6 := hide at6
    replace at46 := hide at46
    dsimp only [blankE] at x0 x1 x2 x3 x4 x5 x6 x7
    replace hZ := hZ.out
    obtain ⟨px, hpx⟩ : ∃ b, x.pin = b := ⟨_, rfl⟩
    obtain ⟨rx, hrx⟩ : ∃ b, x.ready = b := ⟨_, rfl⟩
    obtain ⟨ry, hry⟩ : ∃ b, y.ready = b := ⟨_, rfl⟩
    rw [hpx] at x3 hZ
    rw [hrx] at x2 hZ
    rw [hry] at y2 hZ
    have n23 : w2.heap.size ≠ w3.heap.size := by
      have h1 := at2.lt
      have h2 := hb3.size
      omega
    have n43 : w4.heap.size ≠ w3.heap.size := by omega
    have hG : W6F w2.heap.size w3.heap.size w4.heap.size a rx px x.used ry y.pin y.used w6.drew := ⟨i0, i1, x2, x3, x4, y2, y3, y4⟩
    have hkeep := fun (V : World) (h : W6F w2.heap.size w3.heap.size w4.heap.size a rx px x.used ry y.pin y.used V) => HoldT.two (n1 := 32) (n2 := 36) (F1 := W6F w2.heap.size w3.heap.size w4.heap.size a rx px x.used ry y.pin y.used) (F2 := Y2F w4.heap.size y.pin y.used) h ⟨h.2.2.2.2.2.2.1, h.2.2.2.2.2.2.2⟩
    have hsetM := fun (V : World) (hV : Y2F w4.heap.size y.pin y.used V) (j : Nat) (u : Value) => Y2F.set n43 hV (j := j) u
    have hF := hkeep _ hG
    have hsetF := fun (V : World) (hV : W6F w2.heap.size w3.heap.size w4.heap.size a rx px x.used ry y.pin y.used V) => W6F.set n23 n43 hV a
    have hat := fun (V : World) (hV : Bl w6 V) => set4_at (z := Z) (at6.out.bl hV) hz0
    have hbs := fun (V : World) (hV : Bl w6 V) => set4_bl (z := Z) (hb36.trans hV) (Nat.le_refl _)
    replace hpx := hide hpx
    replace hrx := hide hrx
    replace hry := hide hry
    replace hZ := hide hZ
    refine wp_region_tail [(32, W6F w2.heap.size w3.heap.size w4.heap.size a rx px x.used ry y.pin y.used), (36, Y2F w4.heap.size y.pin y.used)] (by kernel_rfl) ?_
    try (change wpAnyT _ _ _ _ _ _ _ _ (World.drew _))
    cases px
    · refine wpAnyT_take (i := 0) (v := ?_) (List.mem_cons_self ..) rfl (by kernel_rfl) (by kernel_rfl) (by kernel_rfl) (by kernel_rfl) (fun _ _ _ h => h) (Or.inl ⟨by kernel_rfl, by rintro w ⟨g0, g1, g2, g3, g4, g5, g6, g7⟩; go_simp; try with_reducible rfl⟩) (hF _) ?_
      refine wpAnyT_pure (i := 1) (v := ?_) rfl (by kernel_rfl) (by kernel_rfl) (by kernel_rfl) (by kernel_rfl) (fun _ _ _ h => h) (Or.inl ⟨by kernel_rfl, by intro w _; go_simp; try with_reducible rfl⟩) (hF _) ?_
      refine wpAnyT_pure (i := 2) (v := ?_) rfl (by kernel_rfl) (by kernel_rfl) (by kernel_rfl) (by kernel_rfl) (fun _ _ _ h => h) (Or.inl ⟨by kernel_rfl, by intro w _; go_simp; try with_reducible rfl⟩) (hF _) ?_
      refine wpAnyT_pure (i := 3) (v := ?_) rfl (by kernel_rfl) (by kernel_rfl) (by kernel_rfl) (by kernel_rfl) (fun _ _ _ h => h) (Or.inl ⟨by kernel_rfl, by intro w _; go_simp; try with_reducible rfl⟩) (hF _) ?_
      refine wpAnyT_pure (i := 4) (v := ?_) rfl (by kernel_rfl) (by kernel_rfl) (by kernel_rfl) (by kernel_rfl) (fun _ _ _ h => h) (Or.inl ⟨by kernel_rfl, by intro w _; go_simp; try with_reducible rfl⟩) (hF _) ?_
      refine wpAnyT_pure (i := 5) (v := ?_) rfl (by kernel_rfl) (by kernel_rfl) (by kernel_rfl) (by kernel_rfl) (fun _ _ _ h => h) (Or.inl ⟨by kernel_rfl, by intro w _; go_simp; try with_reducible rfl⟩) (hF _) ?_
      refine wpAnyT_pure (i := 6) (v := undef) rfl (by kernel_rfl) (by kernel_rfl) (by kernel_rfl) (by kernel_rfl) (fun _ _ _ h => h) (Or.inr ⟨by kernel_rfl, rfl⟩) (hF _) ?_
      refine wpAnyT_pure (i := 7) (v := undef) rfl (by kernel_rfl) (by kernel_rfl) (by kernel_rfl) (by kernel_rfl) (fun _ _ _ h => h) (Or.inr ⟨by kernel_rfl, rfl⟩) (hF _) ?_
      refine wpAnyT_pure (i := 8) (v := ?_) rfl (by kernel_rfl) (by kernel_rfl) (by kernel_rfl) (by kernel_rfl) (fun _ _ _ h => h) (Or.inl ⟨by kernel_rfl, by intro w _; go_simp; try with_reducible rfl⟩) (hF _) ?_
      refine wpAnyT_pure (i := 9) (v := ?_) rfl (by kernel_rfl) (by kernel_rfl) (by kernel_rfl) (by kernel_rfl) (fun _ _ _ h => h) (Or.inl ⟨by kernel_rfl, by intro w _; go_simp; try with_reducible rfl⟩) (hF _) ?_
      refine wpAnyT_pure (i := 10) (v := undef) rfl (by kernel_rfl) (by kernel_rfl) (by kernel_rfl) (by kernel_rfl) (fun _ _ _ h => h) (Or.inr ⟨by kernel_rfl, rfl⟩) (hF _) ?_
      refine wpAnyT_pure (i := 11) (v := undef) rfl (by kernel_rfl) (by kernel_rfl) (by kernel_rfl) (by kernel_rfl) (fun _ _ _ h => h) (Or.inr ⟨by kernel_rfl, rfl⟩) (hF _) ?_
      refine wpAnyT_pure (i := 12) (v := ?_) rfl (by kernel_rfl) (by kernel_rfl) (by kernel_rfl) (by kernel_rfl) (fun _ _ _ h => h) (Or.inl ⟨by kernel_rfl, by intro w _; go_simp; try with_reducible rfl⟩) (hF _) ?_
      refine wpAnyT_pure (i := 13) (v := ?_) rfl (by kernel_rfl) (by kernel_rfl) (by kernel_rfl) (by kernel_rfl) (fun _ _ _ h => h) (Or.inl ⟨by kernel_rfl, by intro w _; go_simp; try with_reducible rfl⟩) (hF _) ?_
      refine wpAnyT_pure (i := 14) (v := undef) rfl (by kernel_rfl) (by kernel_rfl) (by kernel_rfl) (by kernel_rfl) (fun _ _ _ h => h) (Or.inr ⟨by kernel_rfl, rfl⟩) (hF _) ?_
      refine wpAnyT_pure (i := 15) (v := undef) rfl (by kernel_rfl) (by kernel_rfl) (by kernel_rfl) (by kernel_rfl) (fun _ _ _ h => h) (Or.inr ⟨by kernel_rfl, rfl⟩) (hF _) ?_
      refine wpAnyT_pure (i := 18) (v := ?_) rfl (by kernel_rfl) (by kernel_rfl) (by kernel_rfl) (by kernel_rfl) (fun _ _ _ h => h) (Or.inl ⟨by kernel_rfl, by intro w _; go_simp; try with_reducible rfl⟩) (hF _) ?_
      refine wpAnyT_take (i := 19) (v := ?_) (List.mem_cons_self ..) rfl (by kernel_rfl) (by kernel_rfl) (by kernel_rfl) (by kernel_rfl) (fun _ _ _ h => h) (Or.inl ⟨by kernel_rfl, by rintro w ⟨g0, g1, g2, g3, g4, g5, g6, g7⟩; go_simp; try with_reducible rfl⟩) (hF _) ?_
      refine wpAnyT_pure (i := 24) (v := ?_) rfl (by kernel_rfl) (by kernel_rfl) (by kernel_rfl) (by kernel_rfl) (fun _ _ _ h => h) (Or.inl ⟨by kernel_rfl, by intro w _; go_simp; try with_reducible rfl⟩) (hF _) ?_
      refine wpAnyT_take (i := 25) (v := ?_) (List.mem_cons_self ..) rfl (by kernel_rfl) (by kernel_rfl) (by kernel_rfl) (by kernel_rfl) (fun _ _ _ h => h) (Or.inl ⟨by kernel_rfl, by rintro w ⟨g0, g1, g2, g3, g4, g5, g6, g7⟩; go_simp; try with_reducible rfl⟩) (hF _) ?_
      refine wpAnyT_pure (i := 26) (v := ?_) rfl (by kernel_rfl) (by kernel_rfl) (by kernel_rfl) (by kernel_rfl) (fun _ _ _ h => h) (Or.inl ⟨by kernel_rfl, by intro w _; go_simp; try with_reducible rfl⟩) (hF _) ?_
      refine wpAnyT_take (i := 27) (v := ?_) (List.mem_cons_of_mem _ (List.mem_cons_self ..)) rfl (by kernel_rfl) (by kernel_rfl) (by kernel_rfl) (by kernel_rfl) (fun _ _ _ h => h) (Or.inl ⟨by kernel_rfl, by rintro w ⟨g6, g7⟩; go_simp; try with_reducible rfl⟩) (hF _) ?_
      refine wpAnyT_pure (i := 28) (v := ?_) rfl (by kernel_rfl) (by kernel_rfl) (by kernel_rfl) (by kernel_rfl) (fun _ _ _ h => h) (Or.inl ⟨by kernel_rfl, by intro w _; go_simp; try with_reducible rfl⟩) (hF _) ?_
      refine wpAnyT_pure (i := 16) (v := undef) rfl (by kernel_rfl) (by kernel_rfl) (by kernel_rfl) (by kernel_rfl) (fun _ _ _ h => h) (Or.inr ⟨by kernel_rfl, rfl⟩) (hF _) ?_
      refine wpAnyT_pure (i := 17) (v := ?_) rfl (by kernel_rfl) (by kernel_rfl) (by kernel_rfl) (by kernel_rfl) (fun _ _ _ h => h) (Or.inl ⟨by kernel_rfl, by intro w _; go_simp; try with_reducible rfl⟩) (hF _) ?_
      refine wpAnyT_pure (i := 20) (v := ?_) rfl (by kernel_rfl) (by kernel_rfl) (by kernel_rfl) (by kernel_rfl) (fun _ _ _ h => h) (Or.inl ⟨by kernel_rfl, by intro w _; go_simp; try with_reducible rfl⟩) (hF _) ?_
      refine wpAnyT_pure (i := 21) (v := ?_) rfl (by kernel_rfl) (by kernel_rfl) (by kernel_rfl) (by kernel_rfl) (fun _ _ _ h => h) (Or.inl ⟨by kernel_rfl, by intro w _; go_simp; try with_reducible rfl⟩) (hF _) ?_
      refine wpAnyT_take (i := 22) (v := ?_) (List.mem_cons_of_mem _ (List.mem_cons_self ..)) rfl (by kernel_rfl) (by kernel_rfl) (by kernel_rfl) (by kernel_rfl) (fun _ _ _ h => h) (Or.inl ⟨by kernel_rfl, by rintro w ⟨g6, g7⟩; go_simp; try with_reducible rfl⟩) (hF _) ?_
      refine wpAnyT_pure (i := 23) (v := ?_) rfl (by kernel_rfl) (by kernel_rfl) (by kernel_rfl) (by kernel_rfl) (fun _ _ _ h => h) (Or.inl ⟨by kernel_rfl, by intro w _; go_simp; try with_reducible rfl⟩) (hF _) ?_
      refine wpAnyT_pure (i := 29) (v := ?_) rfl (by kernel_rfl) (by kernel_rfl) (by kernel_rfl) (by kernel_rfl) (fun _ _ _ h => h) (Or.inl ⟨by kernel_rfl, by intro w _; go_simp; try with_reducible rfl⟩) (hF _) ?_
      refine wpAnyT_ready (rs := [30]) (by kernel_rfl) (by simp) ?_
      refine AllReadyT.cons rfl (fun K hK => ?_) AllReadyT.nil
      go_simp
      refine hK _ _ ⟨hkeep _ (hsetF _ hG) _, ?_⟩
      clear hK K
      replace hG := hsetF _ hG
      replace hF := hkeep _ hG
      have hM := W6F.two hG
      refine wpAnyT_pure (i := 31) (v := ?_) rfl (by kernel_rfl) (by kernel_rfl) (by kernel_rfl) (by kernel_rfl) (fun _ _ _ h => h) (Or.inl ⟨by kernel_rfl, by intro w _; go_simp; try with_reducible rfl⟩) (hF _) ?_
      refine wpAnyT_ready (rs := [32]) (by kernel_rfl) (by simp) ?_
      refine AllReadyT.cons rfl (fun K hK => ?_) AllReadyT.nil
      go_simp
      refine hK _ _ ⟨HoldT.second (by kernel_rfl) (hsetM _ hM _ _), ?_⟩
      clear hK K
      refine wpAnyT_pure (i := 33) (v := ?_) rfl (by kernel_rfl) (by kernel_rfl) (by kernel_rfl) (by kernel_rfl) (fun _ _ _ h => h) (Or.inl ⟨by kernel_rfl, by intro w _; go_simp; try with_reducible rfl⟩) (HoldT.second (by kernel_rfl) (hsetM _ hM _ _)) ?_
      refine wpAnyT_ready (rs := [34]) (by kernel_rfl) (by simp) ?_
      refine AllReadyT.cons rfl (fun K hK => ?_) AllReadyT.nil
      go_simp
      refine hK _ _ ⟨HoldT.second (by kernel_rfl) (hsetM _ (hsetM _ hM _ _) _ _), ?_⟩
      clear hK K
      refine wpAnyT_pure (i := 35) (v := ?_) rfl (by kernel_rfl) (by kernel_rfl) (by kernel_rfl) (by kernel_rfl) (fun _ _ _ h => h) (Or.inl ⟨by kernel_rfl, by intro w _; go_simp; try with_reducible rfl⟩) (HoldT.second (by kernel_rfl) (hsetM _ (hsetM _ hM _ _) _ _)) ?_
      refine wpAnyT_ready (rs := [36]) (by kernel_rfl) (by simp) ?_
      refine AllReadyT.cons rfl (fun K hK => ?_) AllReadyT.nil
      go_simp
      refine hK _ _ ⟨HoldT.none (by kernel_rfl), ?_⟩
      clear hK K
      refine wpAnyT_done (by kernel_rfl) ?_ _
      go_wp2_with fail
      go_meet
      have z1 := (hat w6 (Bl.refl w6)).bl (Bl.refl _).drew
      have z2 := (hbs w6 (Bl.refl w6)).drew
      rw [hZ.out] at z1 z2 ⊢
      exact ⟨z1, z2⟩
    · refine wpAnyT_take (i := 0) (v := ?_) (List.mem_cons_self ..) rfl (by kernel_rfl) (by kernel_rfl) (by kernel_rfl) (by kernel_rfl) (fun _ _ _ h => h) (Or.inl ⟨by kernel_rfl, by rintro w ⟨g0, g1, g2, g3, g4, g5, g6, g7⟩; go_simp; try with_reducible rfl⟩) (hF _) ?_
      refine wpAnyT_pure (i := 1) (v := ?_) rfl (by kernel_rfl) (by kernel_rfl) (by kernel_rfl) (by kernel_rfl) (fun _ _ _ h => h) (Or.inl ⟨by kernel_rfl, by intro w _; go_simp; try with_reducible rfl⟩) (hF _) ?_
      refine wpAnyT_pure (i := 2) (v := ?_) rfl (by kernel_rfl) (by kernel_rfl) (by kernel_rfl) (by kernel_rfl) (fun _ _ _ h => h) (Or.inl ⟨by kernel_rfl, by intro w _; go_simp; try with_reducible rfl⟩) (hF _) ?_
      refine wpAnyT_pure (i := 3) (v := ?_) rfl (by kernel_rfl) (by kernel_rfl) (by kernel_rfl) (by kernel_rfl) (fun _ _ _ h => h) (Or.inl ⟨by kernel_rfl, by intro w _; go_simp; try with_reducible rfl⟩) (hF _) ?_
      refine wpAnyT_pure (i := 4) (v := ?_) rfl (by kernel_rfl) (by kernel_rfl) (by kernel_rfl) (by kernel_rfl) (fun _ _ _ h => h) (Or.inl ⟨by kernel_rfl, by intro w _; go_simp; try with_reducible rfl⟩) (hF _) ?_
      refine wpAnyT_pure (i := 5) (v := ?_) rfl (by kernel_rfl) (by kernel_rfl) (by kernel_rfl) (by kernel_rfl) (fun _ _ _ h => h) (Or.inl ⟨by kernel_rfl, by intro w _; go_simp; try with_reducible rfl⟩) (hF _) ?_
      refine wpAnyT_pure (i := 6) (v := undef) rfl (by kernel_rfl) (by kernel_rfl) (by kernel_rfl) (by kernel_rfl) (fun _ _ _ h => h) (Or.inr ⟨by kernel_rfl, rfl⟩) (hF _) ?_
      refine wpAnyT_pure (i := 7) (v := undef) rfl (by kernel_rfl) (by kernel_rfl) (by kernel_rfl) (by kernel_rfl) (fun _ _ _ h => h) (Or.inr ⟨by kernel_rfl, rfl⟩) (hF _) ?_
      refine wpAnyT_pure (i := 8) (v := ?_) rfl (by kernel_rfl) (by kernel_rfl) (by kernel_rfl) (by kernel_rfl) (fun _ _ _ h => h) (Or.inl ⟨by kernel_rfl, by intro w _; go_simp; try with_reducible rfl⟩) (hF _) ?_
      refine wpAnyT_pure (i := 9) (v := ?_) rfl (by kernel_rfl) (by kernel_rfl) (by kernel_rfl) (by kernel_rfl) (fun _ _ _ h => h) (Or.inl ⟨by kernel_rfl, by intro w _; go_simp; try with_reducible rfl⟩) (hF _) ?_
      refine wpAnyT_pure (i := 10) (v := undef) rfl (by kernel_rfl) (by kernel_rfl) (by kernel_rfl) (by kernel_rfl) (fun _ _ _ h => h) (Or.inr ⟨by kernel_rfl, rfl⟩) (hF _) ?_
      refine wpAnyT_pure (i := 11) (v := undef) rfl (by kernel_rfl) (by kernel_rfl) (by kernel_rfl) (by kernel_rfl) (fun _ _ _ h => h) (Or.inr ⟨by kernel_rfl, rfl⟩) (hF _) ?_
      refine wpAnyT_pure (i := 12) (v := ?_) rfl (by kernel_rfl) (by kernel_rfl) (by kernel_rfl) (by kernel_rfl) (fun _ _ _ h => h) (Or.inl ⟨by kernel_rfl, by intro w _; go_simp; try with_reducible rfl⟩) (hF _) ?_
      refine wpAnyT_pure (i := 13) (v := ?_) rfl (by kernel_rfl) (by kernel_rfl) (by kernel_rfl) (by kernel_rfl) (fun _ _ _ h => h) (Or.inl ⟨by kernel_rfl, by intro w _; go_simp; try with_reducible rfl⟩) (hF _) ?_
      refine wpAnyT_pure (i := 14) (v := undef) rfl (by kernel_rfl) (by kernel_rfl) (by kernel_rfl) (by kernel_rfl) (fun _ _ _ h => h) (Or.inr ⟨by kernel_rfl, rfl⟩) (hF _) ?_
      refine wpAnyT_pure (i := 15) (v := undef) rfl (by kernel_rfl) (by kernel_rfl) (by kernel_rfl) (by kernel_rfl) (fun _ _ _ h => h) (Or.inr ⟨by kernel_rfl, rfl⟩) (hF _) ?_
      refine wpAnyT_pure (i := 18) (v := ?_) rfl (by kernel_rfl) (by kernel_rfl) (by kernel_rfl) (by kernel_rfl) (fun _ _ _ h => h) (Or.inl ⟨by kernel_rfl, by intro w _; go_simp; try with_reducible rfl⟩) (hF _) ?_
      refine wpAnyT_take (i := 19) (v := ?_) (List.mem_cons_self ..) rfl (by kernel_rfl) (by kernel_rfl) (by kernel_rfl) (by kernel_rfl) (fun _ _ _ h => h) (Or.inl ⟨by kernel_rfl, by rintro w ⟨g0, g1, g2, g3, g4, g5, g6, g7⟩; go_simp; try with_reducible rfl⟩) (hF _) ?_
      refine wpAnyT_pure (i := 24) (v := ?_) rfl (by kernel_rfl) (by kernel_rfl) (by kernel_rfl) (by kernel_rfl) (fun _ _ _ h => h) (Or.inl ⟨by kernel_rfl, by intro w _; go_simp; try with_reducible rfl⟩) (hF _) ?_
      refine wpAnyT_take (i := 25) (v := ?_) (List.mem_cons_self ..) rfl (by kernel_rfl) (by kernel_rfl) (by kernel_rfl) (by kernel_rfl) (fun _ _ _ h => h) (Or.inl ⟨by kernel_rfl, by rintro w ⟨g0, g1, g2, g3, g4, g5, g6, g7⟩; go_simp; try with_reducible rfl⟩) (hF _) ?_
      refine wpAnyT_pure (i := 26) (v := ?_) rfl (by kernel_rfl) (by kernel_rfl) (by kernel_rfl) (by kernel_rfl) (fun _ _ _ h => h) (Or.inl ⟨by kernel_rfl, by intro w _; go_simp; try with_reducible rfl⟩) (hF _) ?_
      refine wpAnyT_take (i := 27) (v := ?_) (List.mem_cons_of_mem _ (List.mem_cons_self ..)) rfl (by kernel_rfl) (by kernel_rfl) (by kernel_rfl) (by kernel_rfl) (fun _ _ _ h => h) (Or.inl ⟨by kernel_rfl, by rintro w ⟨g6, g7⟩; go_simp; try with_reducible rfl⟩) (hF _) ?_
      refine wpAnyT_pure (i := 28) (v := ?_) rfl (by kernel_rfl) (by kernel_rfl) (by kernel_rfl) (by kernel_rfl) (fun _ _ _ h => h) (Or.inl ⟨by kernel_rfl, by intro w _; go_simp; try with_reducible rfl⟩) (hF _) ?_
      refine wpAnyT_pure (i := 16) (v := undef) rfl (by kernel_rfl) (by kernel_rfl) (by kernel_rfl) (by kernel_rfl) (fun _ _ _ h => h) (Or.inr ⟨by kernel_rfl, rfl⟩) (hF _) ?_
      refine wpAnyT_pure (i := 17) (v := ?_) rfl (by kernel_rfl) (by kernel_rfl) (by kernel_rfl) (by kernel_rfl) (fun _ _ _ h => h) (Or.inl ⟨by kernel_rfl, by intro w _; go_simp; try with_reducible rfl⟩) (hF _) ?_
      refine wpAnyT_pure (i := 20) (v := ?_) rfl (by kernel_rfl) (by kernel_rfl) (by kernel_rfl) (by kernel_rfl) (fun _ _ _ h => h) (Or.inl ⟨by kernel_rfl, by intro w _; go_simp; try with_reducible rfl⟩) (hF _) ?_
      refine wpAnyT_pure (i := 21) (v := undef) rfl (by kernel_rfl) (by kernel_rfl) (by kernel_rfl) (by kernel_rfl) (fun _ _ _ h => h) (Or.inr ⟨by kernel_rfl, rfl⟩) (hF _) ?_
      refine wpAnyT_pure (i := 22) (v := undef) rfl (by kernel_rfl) (by kernel_rfl) (by kernel_rfl) (by kernel_rfl) (fun _ _ _ h => h) (Or.inr ⟨by kernel_rfl, rfl⟩) (hF _) ?_
      refine wpAnyT_pure (i := 23) (v := ?_) rfl (by kernel_rfl) (by kernel_rfl) (by kernel_rfl) (by kernel_rfl) (fun _ _ _ h => h) (Or.inl ⟨by kernel_rfl, by intro w _; go_simp; try with_reducible rfl⟩) (hF _) ?_
      refine wpAnyT_pure (i := 29) (v := ?_) rfl (by kernel_rfl) (by kernel_rfl) (by kernel_rfl) (by kernel_rfl) (fun _ _ _ h => h) (Or.inl ⟨by kernel_rfl, by intro w _; go_simp; try with_reducible rfl⟩) (hF _) ?_
      refine wpAnyT_ready (rs := [30]) (by kernel_rfl) (by simp) ?_
      refine AllReadyT.cons rfl (fun K hK => ?_) AllReadyT.nil
      go_simp
      refine hK _ _ ⟨hkeep _ (hsetF _ hG) _, ?_⟩
      clear hK K
      replace hG := hsetF _ hG
      replace hF := hkeep _ hG
      have hM := W6F.two hG
      refine wpAnyT_pure (i := 31) (v := ?_) rfl (by kernel_rfl) (by kernel_rfl) (by kernel_rfl) (by kernel_rfl) (fun _ _ _ h => h) (Or.inl ⟨by kernel_rfl, by intro w _; go_simp; try with_reducible rfl⟩) (hF _) ?_
      refine wpAnyT_ready (rs := [32]) (by kernel_rfl) (by simp) ?_
      refine AllReadyT.cons rfl (fun K hK => ?_) AllReadyT.nil
      go_simp
      refine hK _ _ ⟨HoldT.second (by kernel_rfl) (hsetM _ hM _ _), ?_⟩
      clear hK K
      refine wpAnyT_pure (i := 33) (v := ?_) rfl (by kernel_rfl) (by kernel_rfl) (by kernel_rfl) (by kernel_rfl) (fun _ _ _ h => h) (Or.inl ⟨by kernel_rfl, by intro w _; go_simp; try with_reducible rfl⟩) (HoldT.second (by kernel_rfl) (hsetM _ hM _ _)) ?_
      refine wpAnyT_ready (rs := [34]) (by kernel_rfl) (by simp) ?_
      refine AllReadyT.cons rfl (fun K hK => ?_) AllReadyT.nil
      go_simp
      refine hK _ _ ⟨HoldT.second (by kernel_rfl) (hsetM _ (hsetM _ hM _ _) _ _), ?_⟩
      clear hK K
      refine wpAnyT_pure (i := 35) (v := ?_) rfl (by kernel_rfl) (by kernel_rfl) (by kernel_rfl) (by kernel_rfl) (fun _ _ _ h => h) (Or.inl ⟨by kernel_rfl, by intro w _; go_simp; try with_reducible rfl⟩) (HoldT.second (by kernel_rfl) (hsetM _ (hsetM _ hM _ _) _ _)) ?_
      refine wpAnyT_ready (rs := [36]) (by kernel_rfl) (by simp) ?_
      refine AllReadyT.cons rfl (fun K hK => ?_) AllReadyT.nil
      go_simp
      refine hK _ _ ⟨HoldT.none (by kernel_rfl), ?_⟩
      clear hK K
      refine wpAnyT_done (by kernel_rfl) ?_ _
      go_wp2_with fail
      go_meet
      have z1 := (hat w6 (Bl.refl w6)).bl (Bl.refl _).drew
      have z2 := (hbs w6 (Bl.refl w6)).drew
      rw [hZ.out] at z1 z2 ⊢
      exact ⟨z1, z2⟩
  case rest =>
    obtain ⟨at7, hb7⟩ := hcut
    clear i0 i1 hil x0 x1 x2 x3 x4 x5 x6 x7 f0 f1 f2 f3 f4 f5 f6 f7 hxl y0 y1 y2 y3 y4 y5 y6 y7 hyl
    replace hL := hL.out
    replace hN := hN.out
    simp only [if_false, Bool.false_eq_true] at hL hN
    have hp := hide fun V (hv : Bl w V) => shelfPut B d H Z none none 0 0 V (by omega) (hB.bl hv) hzok (hzh.out V)
    rw [← hL, ← hN] at hp
    obtain ⟨y0, y1, y2, y3, y4, y5, y6, y7⟩ := at7.cells
    have hyl := at7.lt
    clear hL hN
    try clear hz0
    try clear hzok
    try clear hzh
    try clear hwh
    try clear hZ
    try clear hxok
    try clear hyok
    try clear haok
    try clear hmok
    try clear hM
    try clear at5
    try clear at45
    try clear at6
    try clear at46
    try clear hck
    try clear hsm
    try clear hdl
    try clear hh
    try clear hb5
    try clear hb6
    try clear hb36
    try clear m1
    try clear m2
    try clear hwl
    try clear hbW6
    try clear at2
    try clear at3
    try clear at4
    try clear at34
    go_wp2_with fail
    refine (hp.out _ (hbW.trans (hbW3.trans hb7))).mono ?_
    rintro e w9 ⟨X9, c9, rfl, r1, r2, hX9, hb9⟩
    go_wp2_with fail
    go_ret2
    exact ⟨X9, c9, rfl, r1, r2, hX9.more (hbW.trans (hbW3.trans hb7)).size, (hbW.trans (hbW3.trans hb7)).trans hb9⟩

end Go.Proofs.YteoodmilcpmmpaaGreat

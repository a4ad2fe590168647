/-
  The walk of HomeMark.
-/
import Derived.Test.YtkolimhkfiebeaaHomeAlive
import Derived.Test.YtkolimhkfiebeaaJoined
namespace Go.Proofs.Ytkolimhkfiebeaa
open Go.RowKit

theorem ofN_ok {l : List Op} {p : List Run} (h : ofN l p = 0) : bagMay l = true ∧ plAny p = true := by
  unfold ofN at h
  cases hb : (bagMay l && plAny p)
  · rw [hb] at h; cases h
  · rwa [Bool.and_eq_true] at hb

theorem ofN_of {l : List Op} {p : List Run} (h : bagMay l = true) (k : plAny p = true) : ofN l p = 0 ∧ ofS l p = homeF (livesF l) p := by
  unfold ofN ofS
  rw [h, k]
  exact ⟨rfl, rfl⟩

theorem addL_len (l : List Op) (o : Op) : (addL l o).length ≤ l.length + 1 := by
  rw [← (rAdd_eq l o).2]
  unfold rAddL
  split
  · exact withB_len l o
  · simp

theorem op_any {o : Op} (h : opMay o = true) : plAny o.pl = true := by
  unfold opMay at h
  simp only [Bool.and_eq_true] at h
  unfold plAny
  rw [h.1.2, Bool.or_true]

/-- What is ahead of a section that is not the first. -/
theorem ahead_at {l : List Op} {i : Nat} {s t : Id} (h : bagMay l = true) (hs : (sectF (livesF l))[i + 1]? = some s) (ht : (sectF (livesF l))[i]? = some t) : whereN l s 1 = 0 ∧ aheadS l s = t := by
  have hi : idxOf (sectF (livesF l)) s = ((i + 1 : Nat) : Int) := idx_hit hs fun y hy e => by
    obtain ⟨j, hj⟩ := List.getElem?_of_mem hy
    rw [List.getElem?_take] at hj
    split at hj
    · rename_i hji
      have := sect_one h (e ▸ hj) hs
      omega
    · cases hj
  have hw : whereN l s 1 = 0 := by
    unfold whereN
    rw [h, if_pos rfl, hi, if_neg (by omega)]
  refine ⟨hw, ?_⟩
  unfold aheadS
  rw [hw, if_pos rfl, hi, Int.toNat_natCast, Nat.add_sub_cancel, ht]
  rfl

set_option maxRecDepth 100000 in
set_option maxHeartbeats 16000000 in
theorem lawHomeMark13 (A S B : Option Addr) (c sc d : Nat) (l : List Op) (o : Op) (p : List Run) (w : World) (hl : l.length ≤ 140737488355328) (hpm : p.length ≤ maxLen) (hA : R cOp 0 w A l) (ho : OpIn w o S sc) (hB : R cRun 0 w B p) :
    Calls Try.prog 9 #[.slice A l.length c, .agg #[.int .u8 o.kind, .int .u32 o.id.t, .int .u8 o.id.r, .slice S o.pl.length sc, .int .i64 o.pt], .slice B p.length d] w fun e w' => e = .returned (.bool true) ∧ Bl w w' := by
  have hlm : l.length ≤ maxLen := by unfold maxLen; omega
  have hga := hide (fun W (hb : Bl w W) => refGreat10 A c l 60 W hl (hA.bl hb))
  obtain ⟨W, hW⟩ : ∃ W, W = w.alloc (.cells #[Value.int IntKind.u8 o.kind, Value.int IntKind.u32 o.id.t, Value.int IntKind.u8 o.id.r, Value.slice S o.pl.length sc, Value.int IntKind.i64 o.pt] 68) := ⟨_, rfl⟩
  have hbW : Bl w W := by rw [hW]; exact (Bl.refl _).alloc _
  have at0 : OpBox W w.heap.size o S sc := by rw [hW]; exact OpBox.new w o S sc _
  go_enter Try.func9, Try.ntmps9
  go_wp2_with fail
  rw [← hW]
  clear hW
  refine (lawAlive13 _).mono ?_
  rintro e w0 ⟨rfl, hb0⟩
  have hbw0 := hbW.trans hb0
  go_wp2_with fail
  refine (hga.out _ hbw0).mono ?_
  rintro e w1 ⟨ba, rfl, hfa, hb1⟩
  have hbw1 := hbw0.trans hb1
  have hbW1 := hb0.trans hb1
  cases ba
  rotate_left
  · clear hfa
    go_wp2_with fail
    go_ret
    exact ⟨rfl, hbw1⟩
  have hl60 : l.length ≤ 60 := by have := (hfa rfl).1; omega
  clear hfa hga
  obtain ⟨x0, x1, x2, x3, x4⟩ := (at0.bl hbW1).cells
  have hxl := (at0.bl hbW1).lt
  by_cases hp3 : (100 : Int) < (p.length : Int)
  · go_wp2_with fail
    go_ret
    exact ⟨rfl, hbw1⟩
  by_cases hp4 : (100 : Int) < (o.pl.length : Int)
  · go_wp2_with fail
    go_ret
    exact ⟨rfl, hbw1⟩
  have hL : (addL l o).length ≤ 61 := by have := addL_len l o; omega
  have pOf1 := hide fun V (hv : Bl w V) => homeOf A B c d l p V hlm hpm (hA.bl hv) (hB.bl hv)
  have pOf2 := hide fun V (hv : Bl w V) => homeOf A S c sc l o.pl V hlm ho.small (hA.bl hv) (ho.hR.bl hv)
  have pAdd := hide fun V (hv : Bl w V) => bagAdd A S c sc l o V hlm (hA.bl hv) (ho.bl hv)
  have pOf3 := hide fun X x V (hX : R cOp 0 V X (addL l o)) (hv : Bl w V) => homeOf X B x d (addL l o) p V (by unfold maxLen; omega) hpm hX (hB.bl hv)
  have pFind := hide fun V (hv : Bl w V) => bagFind A c l o.id V hlm ho.ok.2.1 (hA.bl hv)
  have hmain := hide (show ofN l p = 0 → addN l o = 0 → ofN (addL l o) p = 0 ∧ ofS (addL l o) p = homeF (livesF (addL l o)) p ∧ ofS l p = homeF (livesF l) p ∧ ofS l o.pl = homeF (livesF l) o.pl from fun h1 h2 => by
    have h3 := ofN_ok h1
    have h4 := addN_parts h2
    exact ⟨(ofN_of (addL_may h2) h3.2).1, (ofN_of (addL_may h2) h3.2).2, (ofN_of h3.1 h3.2).2, (ofN_of h3.1 (op_any h4.2)).2⟩)
  obtain ⟨ws, hws⟩ : ∃ q, q = ofS l p := ⟨_, rfl⟩
  obtain ⟨os, hos⟩ : ∃ q, q = ofS l o.pl := ⟨_, rfl⟩
  obtain ⟨ns, hns⟩ : ∃ q, q = ofS (addL l o) p := ⟨_, rfl⟩
  rw [← hws] at pOf1 hmain
  rw [← hos] at pOf2 hmain
  rw [← hns] at pOf3 hmain
  replace hws := hide hws
  replace hos := hide hos
  replace hns := hide hns
  obtain ⟨N1, hN1⟩ : ∃ q, q = ofN l p := ⟨_, rfl⟩
  obtain ⟨N2, hN2⟩ : ∃ q, q = ofN l o.pl := ⟨_, rfl⟩
  obtain ⟨N3, hN3⟩ : ∃ q, q = addN l o := ⟨_, rfl⟩
  obtain ⟨N4, hN4⟩ : ∃ q, q = ofN (addL l o) p := ⟨_, rfl⟩
  rw [← hN1] at pOf1
  rw [← hN2] at pOf2
  rw [← hN3] at pAdd
  rw [← hN4] at pOf3
  replace hN1 := hide hN1
  replace hN2 := hide hN2
  replace hN3 := hide hN3
  replace hN4 := hide hN4
  go_wp2_with fail
  refine (pOf1.out _ hbw1).mono ?_
  rintro e w2 ⟨rfl, hb2⟩
  obtain ⟨V2, hV2⟩ : ∃ V2, V2 = w2.alloc (.cells #[Value.int IntKind.u32 ws.t, Value.int IntKind.u8 ws.r] 36) := ⟨_, rfl⟩
  have at2 : IdBox V2 w2.heap.size ws := by rw [hV2]; exact IdBox.new w2 ws _
  have hb2V : Bl w1 V2 := by rw [hV2]; exact hb2.alloc _
  have hbW2 := hbW1.trans hb2
  clear x0 x1 x2 x3 x4 hxl
  obtain ⟨x0, x1, x2, x3, x4⟩ := (at0.bl hbW2).cells
  have hxl := (at0.bl hbW2).lt
  go_wp2_with fail
  rw [← hV2]
  clear hV2
  refine (pOf2.out _ (hbw1.trans hb2V)).mono ?_
  rintro e w3 ⟨rfl, hb3⟩
  obtain ⟨V3, hV3⟩ : ∃ V3, V3 = w3.alloc (.cells #[Value.int IntKind.u32 os.t, Value.int IntKind.u8 os.r] 36) := ⟨_, rfl⟩
  have at3 : IdBox V3 w3.heap.size os := by rw [hV3]; exact IdBox.new w3 os _
  have hb3V : Bl V2 V3 := by rw [hV3]; exact hb3.alloc _
  have hbW3 := hbW1.trans (hb2V.trans hb3)
  clear x0 x1 x2 x3 x4 hxl
  obtain ⟨x0, x1, x2, x3, x4⟩ := (at0.bl hbW3).cells
  have hxl := (at0.bl hbW3).lt
  have hbw3V := hbw1.trans (hb2V.trans hb3V)
  go_wp2_with fail
  rw [← hV3]
  clear hV3
  refine (pAdd.out _ hbw3V).mono ?_
  rintro e w4 ⟨X, x, rfl, -, -, hX, hb4⟩
  go_wp2_with fail
  refine (pOf3.out X x _ hX.zero (hbw3V.trans hb4)).mono ?_
  rintro e w5 ⟨rfl, hb5⟩
  have hb35 := hb4.trans hb5
  have hbw5 := hbw3V.trans hb35
  clear x0 x1 x2 x3 x4 hxl pOf1 pOf2 pOf3 pAdd
  by_cases z1 : N1 = 0
  case neg =>
    go_wp2_with fail
    go_ret
    exact ⟨rfl, hbw5.alloc _⟩
  by_cases z2 : N2 = 0
  case neg =>
    go_wp2_with fail
    go_ret
    exact ⟨rfl, hbw5.alloc _⟩
  by_cases z3 : N3 = 0
  case neg =>
    go_wp2_with fail
    go_ret
    exact ⟨rfl, hbw5.alloc _⟩
  subst z1 z2 z3
  have hadd : addN l o = 0 := hN3.out.symm
  obtain ⟨h4, ens, ews, eos⟩ := hmain.out hN1.out.symm hadd
  obtain ⟨hmay, hany⟩ := ofN_ok hN1.out.symm
  have hom := (addN_parts hadd).2
  obtain rfl : N4 = 0 := hN4.out.trans h4
  have hfb : findB11 l o.id = hasId l o.id := by unfold findB11; rw [hmay]; rfl
  have pAh := fun V (hv : Bl w V) => homeAhead A c l ws V hlm (hA.bl hv)
  have pJo := fun V (hv : Bl w V) => marksJoined A c l o.id V hlm (hA.bl hv)
  have pCm := fun V (hv : Bl w V) => placeCompareD S B sc d o.pl p V ho.small hpm (ho.hR.bl hv) (hB.bl hv)
  rw [hmay, Bool.true_and] at pJo
  have hcmp : plCmp o.pl p = heldF o.pl p := by unfold plCmp; rw [op_any hom, hany]; rfl
  rw [hcmp] at pCm
  rw [hfb] at pFind
  generalize findO l o.id = fo at *
  clear hN1 hN2 hN3 hN4 hmain h4 hws hos hns hcmp hfb
  -- what is to be shown, by cases
  have hold := hide fun (h : hasId l o.id = true) => (show ns = ws from by rw [ens, ews, addL_old hadd h])
  have hmark := hide fun (h : hasId l o.id = false) (hk : o.kind = 2) (he : endedF l o.id = false) => (show ns = if ws = os ∧ heldF o.pl p ≤ 0 then o.id else ws from by rw [ens, ews, eos]; exact mark_home hadd h (any_pos hany) hk he)
  have hoth := hide fun (h : hasId l o.id = false) (h4 : o.kind ≠ 4) (h2 : o.kind = 2 → endedF l o.id = true) => (show ns = ws from by rw [ens, ews]; exact other_home hadd h (any_pos hany) h4 h2)
  have hjoin1 := hide fun (h : hasId l o.id = false) (hk : o.kind = 4) (hw : ws ≠ placeFin o.pl) => (show ns = ws from by rw [ens, ews]; exact (join_home hadd h (any_pos hany) hk).1 (by rw [← ews]; exact hw))
  have hjoin2 := hide fun (h : hasId l o.id = false) (hk : o.kind = 4) (hw : ws = placeFin o.pl) => (show whereN l ws 1 = 0 ∧ aheadS l ws = ns from by
    obtain ⟨i, q1, q2⟩ := (join_home hadd h (any_pos hany) hk).2 (by rw [← ews]; exact hw)
    rw [← hw] at q1
    rw [← ens] at q2
    exact ahead_at hmay q1 q2)
  replace pAh := hide pAh
  replace pJo := hide pJo
  replace pCm := hide pCm
  obtain ⟨V5, hV5⟩ : ∃ V5, V5 = w5.alloc (.cells #[Value.int IntKind.u32 ns.t, Value.int IntKind.u8 ns.r] 36) := ⟨_, rfl⟩
  have at5 : IdBox V5 w5.heap.size ns := by rw [hV5]; exact IdBox.new w5 ns _
  have hb5V : Bl w5 V5 := by rw [hV5]; exact (Bl.refl _).alloc _
  have hbW5 := hbW1.trans (hb2V.trans (hb3V.trans hb35))
  have hbwV5 := hbw5.trans hb5V
  obtain ⟨x0, x1, x2, x3, x4⟩ := (at0.bl hbW5).cells
  have hxl := (at0.bl hbW5).lt
  have hla := hide fun V (hv : Bl w V) => placeLast S sc o.pl V ho.small (ho.hR.bl hv)
  have hb25 := hb3V.trans hb35
  clear ens ews eos hmay hany hom hadd
  go_wp2_with fail
  rw [← hV5]
  clear hV5
  refine (pFind.out _ hbwV5).mono ?_
  rintro e w6 ⟨FA, fc, rfl, -, -, -, hb6⟩
  clear pFind
  have hbW6 := hbW5.trans (hb5V.trans hb6)
  have hb26 := hb25.trans (hb5V.trans hb6)
  have hbw6 := hbwV5.trans hb6
  obtain ⟨V7, hV7⟩ : ∃ V7, V7 = (w6.alloc (.cells #[Value.int IntKind.u8 fo.kind, Value.int IntKind.u32 fo.id.t, Value.int IntKind.u8 fo.id.r, Value.slice FA fo.pl.length fc, Value.int IntKind.i64 fo.pt] 68)).alloc (.cells #[Value.int IntKind.u32 ws.t, Value.int IntKind.u8 ws.r] 36) := ⟨_, rfl⟩
  have at7 : IdBox V7 (w6.heap.size + 1) ws := by
    have h := IdBox.new (w6.alloc (.cells #[Value.int IntKind.u8 fo.kind, Value.int IntKind.u32 fo.id.t, Value.int IntKind.u8 fo.id.r, Value.slice FA fo.pl.length fc, Value.int IntKind.i64 fo.pt] 68)) ws 36
    rw [World.size_alloc w6] at h
    rw [hV7]
    exact h
  have hb67 : Bl w6 V7 := by rw [hV7]; exact ((Bl.refl _).alloc _).alloc _
  clear x0 x1 x2 x3 x4 hxl
  obtain ⟨x0, x1, x2, x3, x4⟩ := (at0.bl hbW6).cells
  have hxl := (at0.bl hbW6).lt
  obtain ⟨s0, s1, -, -⟩ := at2.bl hb26
  have hsl := (at2.bl hb26).lt
  have hbW7 := hbW6.trans hb67
  have hb57 := hb6.trans hb67
  have hbw7 := hbw6.trans hb67
  have hb27 := hb26.trans hb67
  have hb37 : Bl V3 V7 := hb35.trans (hb5V.trans hb57)
  cases hhas : hasId l o.id
  rotate_left
  · obtain rfl := hold.out hhas
    have hwb := at7
    clear hold hmark hoth hjoin1 hjoin2
    go_wp2_with fail
    rw [← hV7]
    clear hV7 x0 x1 x2 x3 x4 hxl s0 s1 hsl
    obtain ⟨x0, x1, x2, x3, x4⟩ := (at0.bl (hbW7)).cells
    have hxl := (at0.bl (hbW7)).lt
    have X0 := fun p : Wd V7 => Wd.cell x0 hxl p
    clear x0 x1 x2 x3 x4
    (refine wp_region_wd (by kernel_rfl) (by kernel_rfl) ?_
     repeat (go_big_quiet_step ((fail)))
     refine wpQuiet_nil ?_
     intro w9 hw'
     obtain ⟨⟨wx, hb9⟩, hw''⟩ := hw'
     subst hw'')
    obtain ⟨y0, y1, -, -⟩ := (at5.bl (hb57)).bl hb9
    obtain ⟨z0, z1, -, -⟩ := hwb.bl hb9
    have heq := eqSelfId ns
    go_wp2_with fail
    go_ret
    exact ⟨rfl, (hbw7).trans hb9⟩
  by_cases hk2 : o.kind = 2
  · have hk4 : o.kind ≠ 4 := by omega
    have e2 : (o.kind == 2) = true := by simp [hk2]
    have e4 : (o.kind == 4) = false := by simp [hk4]
    have pj := pJo.out
    cases he : endedF l o.id
    · have hns := hmark.out hhas hk2 he
      rw [he] at pj
      replace pj := hide pj
      replace hns := hide hns
      replace hk2 := hide hk2
      replace hk4 := hide hk4
      clear hold hmark hoth hjoin1 hjoin2 he pJo
      go_wp2_with fail
      rw [← hV7]
      clear hV7 x0 x1 x2 x3 x4 hxl s0 s1 hsl
      refine (pj.out _ hbw7).mono ?_
      rintro e w8 ⟨rfl, hb8⟩
      have hbW8 := hbW7.trans hb8
      have hb58 := hb57.trans hb8
      have hbw8 := hbw7.trans hb8
      obtain ⟨x0, x1, x2, x3, x4⟩ := (at0.bl hbW8).cells
      have hxl := (at0.bl hbW8).lt
      obtain ⟨s0, s1, -, -⟩ := at2.bl (hb27.trans hb8)
      obtain ⟨t0, t1, -, -⟩ := at3.bl (hb37.trans hb8)
      have hqo := run_eqId ws os
      by_cases hwo : ws = os
      · rw [show neqId ws os = false from by unfold neqId; rw [decide_eq_true hwo]; rfl] at hqo
        have hns2 := hide (show ns = if heldF o.pl p ≤ 0 then o.id else ws from by
          have h := hns.out
          by_cases q : heldF o.pl p ≤ 0
          · rw [if_pos ⟨hwo, q⟩] at h
            rw [if_pos q]
            exact h
          · rw [if_neg (fun h => q h.2)] at h
            rw [if_neg q]
            exact h)
        replace hwo := hide hwo
        clear hns
        generalize heldF o.pl p = N at *
        go_wp2_with fail
        refine (pCm.out _ hbw8).mono ?_
        rintro e w10 ⟨rfl, hb10⟩
        have hbW10 := hbW8.trans hb10.bl
        have hb510 := hb58.trans hb10.bl
        have hbw10 := hbw8.trans hb10.bl
        have at7' := at7.bl (hb8.trans hb10.bl)
        clear x0 x1 x2 x3 x4 hxl s0 s1 t0 t1 pCm
        by_cases hop : N ≤ 0
        · obtain rfl : ns = o.id := by have h := hns2.out; rw [if_pos hop] at h; exact h
          obtain ⟨x0, x1, x2, x3, x4⟩ := (at0.bl hbW10).cells
          have hxl := (at0.bl hbW10).lt
          obtain ⟨z0, z1, f0, f1⟩ := at7'
          have hzl := (at7.bl (hb8.trans hb10.bl)).lt
          have hwb := (at7.bl (hb8.trans hb10.bl)).set o.id
          have hn1 : W.heap.size ≤ w6.heap.size + 1 := Nat.le_succ_of_le hbW6.size
          have hn5 : V5.heap.size ≤ w6.heap.size + 1 := Nat.le_succ_of_le hb6.size
          have hnw : w.heap.size ≤ w6.heap.size + 1 := Nat.le_succ_of_le hbw6.size
          have hbW11 := (hbW10.setCell (p := ⟨w6.heap.size + 1, 0, none⟩) hn1 (.int .u32 o.id.t)).setCell (p := ⟨w6.heap.size + 1, 1, none⟩) hn1 (.int .u8 o.id.r)
          have hb511 := (hb510.setCell (p := ⟨w6.heap.size + 1, 0, none⟩) hn5 (.int .u32 o.id.t)).setCell (p := ⟨w6.heap.size + 1, 1, none⟩) hn5 (.int .u8 o.id.r)
          have hbw11 := (hbw10.setCell (p := ⟨w6.heap.size + 1, 0, none⟩) hnw (.int .u32 o.id.t)).setCell (p := ⟨w6.heap.size + 1, 1, none⟩) hnw (.int .u8 o.id.r)
          obtain ⟨V11, hV11⟩ : ∃ V11, V11 = (w10.setCell ⟨w6.heap.size + 1, 0, none⟩ (.int .u32 o.id.t)).setCell ⟨w6.heap.size + 1, 1, none⟩ (.int .u8 o.id.r) := ⟨_, rfl⟩
          rw [← hV11] at hwb hbW11 hb511 hbw11
          go_wp2_with fail
          rw [← hV11]
          clear hV11 x0 x1 x2 x3 x4 hxl z0 z1 f0 f1 hzl
          obtain ⟨ns, hnsd⟩ : ∃ q, q = o.id := ⟨_, rfl⟩
          rw [← hnsd] at hwb at5
          replace hnsd := hide hnsd
          obtain ⟨x0, x1, x2, x3, x4⟩ := (at0.bl (hbW11)).cells
          have hxl := (at0.bl (hbW11)).lt
          have X0 := fun p : Wd V11 => Wd.cell x0 hxl p
          clear x0 x1 x2 x3 x4
          (refine wp_region_wd (by kernel_rfl) (by kernel_rfl) ?_
           repeat (go_big_quiet_step ((fail)))
           refine wpQuiet_nil ?_
           intro w9 hw'
           obtain ⟨⟨wx, hb9⟩, hw''⟩ := hw'
           subst hw'')
          obtain ⟨y0, y1, -, -⟩ := (at5.bl (hb511)).bl hb9
          obtain ⟨z0, z1, -, -⟩ := hwb.bl hb9
          have heq := eqSelfId ns
          go_wp2_with fail
          go_ret
          exact ⟨rfl, (hbw11).trans hb9⟩
        · obtain rfl : ns = ws := by have h := hns2.out; rw [if_neg hop] at h; exact h
          have hwb := at7'
          have hopd : decide (N ≤ 0) = false := decide_eq_false hop
          go_wp2_with fail
          obtain ⟨x0, x1, x2, x3, x4⟩ := (at0.bl (hbW10)).cells
          have hxl := (at0.bl (hbW10)).lt
          have X0 := fun p : Wd w10 => Wd.cell x0 hxl p
          clear x0 x1 x2 x3 x4
          (refine wp_region_wd (by kernel_rfl) (by kernel_rfl) ?_
           repeat (go_big_quiet_step ((fail)))
           refine wpQuiet_nil ?_
           intro w9 hw'
           obtain ⟨⟨wx, hb9⟩, hw''⟩ := hw'
           subst hw'')
          obtain ⟨y0, y1, -, -⟩ := (at5.bl (hb510)).bl hb9
          obtain ⟨z0, z1, -, -⟩ := hwb.bl hb9
          have heq := eqSelfId ns
          go_wp2_with fail
          go_ret
          exact ⟨rfl, (hbw10).trans hb9⟩
      · rw [show neqId ws os = true from by unfold neqId; rw [decide_eq_false hwo]; rfl] at hqo
        obtain rfl : ns = ws := by have h := hns.out; rw [if_neg (fun h => hwo h.1)] at h; exact h
        have hwb := at7.bl hb8
        replace hwo := hide hwo
        clear hns
        go_wp2_with fail
        clear x0 x1 x2 x3 x4 hxl s0 s1 t0 t1 hqo
        obtain ⟨x0, x1, x2, x3, x4⟩ := (at0.bl (hbW8)).cells
        have hxl := (at0.bl (hbW8)).lt
        have X0 := fun p : Wd w8 => Wd.cell x0 hxl p
        clear x0 x1 x2 x3 x4
        (refine wp_region_wd (by kernel_rfl) (by kernel_rfl) ?_
         repeat (go_big_quiet_step ((fail)))
         refine wpQuiet_nil ?_
         intro w9 hw'
         obtain ⟨⟨wx, hb9⟩, hw''⟩ := hw'
         subst hw'')
        obtain ⟨y0, y1, -, -⟩ := (at5.bl (hb58)).bl hb9
        obtain ⟨z0, z1, -, -⟩ := hwb.bl hb9
        have heq := eqSelfId ns
        go_wp2_with fail
        go_ret
        exact ⟨rfl, (hbw8).trans hb9⟩
    · obtain rfl := hoth.out hhas hk4 (fun _ => he)
      rw [he] at pj
      replace pj := hide pj
      replace hk2 := hide hk2
      replace hk4 := hide hk4
      clear hold hmark hoth hjoin1 hjoin2 he pJo
      go_wp2_with fail
      rw [← hV7]
      clear hV7 x0 x1 x2 x3 x4 hxl s0 s1 hsl
      refine (pj.out _ hbw7).mono ?_
      rintro e w8 ⟨rfl, hb8⟩
      have hwb := at7.bl hb8
      go_wp2_with fail
      obtain ⟨x0, x1, x2, x3, x4⟩ := (at0.bl (hbW7.trans hb8)).cells
      have hxl := (at0.bl (hbW7.trans hb8)).lt
      have X0 := fun p : Wd w8 => Wd.cell x0 hxl p
      clear x0 x1 x2 x3 x4
      (refine wp_region_wd (by kernel_rfl) (by kernel_rfl) ?_
       repeat (go_big_quiet_step ((fail)))
       refine wpQuiet_nil ?_
       intro w9 hw'
       obtain ⟨⟨wx, hb9⟩, hw''⟩ := hw'
       subst hw'')
      obtain ⟨y0, y1, -, -⟩ := (at5.bl (hb57.trans hb8)).bl hb9
      obtain ⟨z0, z1, -, -⟩ := hwb.bl hb9
      have heq := eqSelfId ns
      go_wp2_with fail
      go_ret
      exact ⟨rfl, (hbw7.trans hb8).trans hb9⟩
  by_cases hk4 : o.kind = 4
  · have e2 : (o.kind == 2) = false := by simp [hk2]
    have e4 : (o.kind == 4) = true := by simp [hk4]
    have hj1 := hide (fun h => hjoin1.out hhas hk4 h)
    have hj2 := hide (fun h => hjoin2.out hhas hk4 h)
    clear hold hmark hoth hjoin1 hjoin2 pJo pCm
    replace hk2 := hide hk2
    replace hk4 := hide hk4
    go_wp2_with fail
    rw [← hV7]
    clear hV7 x0 x1 x2 x3 x4 hxl s0 s1 hsl
    obtain ⟨x0, x1, x2, x3, x4⟩ := (at0.bl hbW7).cells
    have hxl := (at0.bl hbW7).lt
    obtain ⟨s0, s1, -, -⟩ := at2.bl hb27
    have hsl := (at2.bl hb27).lt
    have X0 := fun p : Wd V7 => Wd.cell x0 hxl p
    have X3 := fun p : Wd V7 => Wd.cell x3 hxl p
    have S0 := fun p : Wd V7 => Wd.cell s0 hsl p
    have S1 := fun p : Wd V7 => Wd.cell s1 hsl p
    have hlv := hide fun p : Wd V7 => hla.out p.v (hbw7.trans p.h)
    have hqe := run_eqId ws (placeFin o.pl)
    generalize placeFin o.pl = q at *
    clear x0 x1 x2 x3 x4 s0 s1 hla
    by_cases hwq : ws = q
    · rw [show neqId ws q = false from by unfold neqId; rw [decide_eq_true hwq]; rfl] at hqe
      obtain ⟨ha1, ha2⟩ := hj2.out hwq
      have pa := pAh.out
      rw [ha1, ha2] at pa
      replace pa := hide pa
      replace hwq := hide hwq
      clear hj1 hj2 pAh ha1 ha2
      (refine wp_region_wd (by kernel_rfl) (by kernel_rfl) ?_
       repeat (go_big_quiet_step ((go_at_call 54; exact Calls.wd (hlv.out _))))
       refine wpQuiet_nil ?_
       intro w9 hw'
       obtain ⟨⟨wx, hb9⟩, hw''⟩ := hw'
       subst hw'')
      obtain ⟨s0, s1, -, -⟩ := at2.bl (hb27.trans hb9)
      clear X0 X3 S0 S1 hlv hqe hxl hsl
      go_wp2_with fail
      refine (pa.out _ (hbw7.trans hb9)).mono ?_
      rintro e w10 ⟨rfl, hb10⟩
      have hb710 := hb9.trans hb10
      obtain ⟨z0, z1, f0, f1⟩ := at7.bl hb710
      have hzl := (at7.bl hb710).lt
      clear s0 s1
      have hn5 : V5.heap.size ≤ w6.heap.size + 1 := Nat.le_succ_of_le hb6.size
      have hnw : w.heap.size ≤ w6.heap.size + 1 := Nat.le_succ_of_le hbw6.size
      have hneq : w6.heap.size + 1 ≠ w10.heap.size := by omega
      have hneq' : w10.heap.size ≠ w6.heap.size + 1 := by omega
      have hne5 : w5.heap.size ≠ w6.heap.size + 1 := by have := hb6.size; have := at5.lt; omega
      have hne6 : w6.heap.size + 1 ≠ w5.heap.size := fun h => hne5 h.symm
      have hba : Bl w10 (w10.alloc (.cells #[Value.int IntKind.u32 ns.t, Value.int IntKind.u8 ns.r] 36)) := (Bl.refl _).alloc _
      have hwb := (at7.bl (hb710.trans hba)).set ns
      have hb511 := ((hb57.trans (hb710.trans hba)).setCell (p := ⟨w6.heap.size + 1, 0, none⟩) hn5 (.int .u32 ns.t)).setCell (p := ⟨w6.heap.size + 1, 1, none⟩) hn5 (.int .u8 ns.r)
      have hbw11 := ((hbw7.trans (hb710.trans hba)).setCell (p := ⟨w6.heap.size + 1, 0, none⟩) hnw (.int .u32 ns.t)).setCell (p := ⟨w6.heap.size + 1, 1, none⟩) hnw (.int .u8 ns.r)
      obtain ⟨y0, y1, -, -⟩ := at5.bl hb511
      obtain ⟨u0, u1, -, -⟩ := hwb
      have heq := eqSelfId ns
      obtain ⟨v0, v1, -, -⟩ := at5.bl (hb57.trans hb710)
      have hvl := (at5.bl (hb57.trans hb710)).lt
      have hbwf := hide ((((hbw7.trans hb710).setCell (p := ⟨w6.heap.size + 1, 0, none⟩) hnw (.int .u32 ns.t)).setCell (p := ⟨w6.heap.size + 1, 1, none⟩) hnw (.int .u8 ns.r)).alloc (.cells #[Value.int IntKind.u32 ns.t, Value.int IntKind.u8 ns.r] 36))
      clear hbw11 hb511
      go_wp2_with fail
      go_ret
      exact ⟨rfl, hbwf.out⟩
    · rw [show neqId ws q = true from by unfold neqId; rw [decide_eq_false hwq]; rfl] at hqe
      obtain rfl := hj1.out hwq
      have hwb := at7
      replace hwq := hide hwq
      clear hj1 hj2 pAh
      (refine wp_region_wd (by kernel_rfl) (by kernel_rfl) ?_
       repeat (go_big_quiet_step ((go_at_call 54; exact Calls.wd (hlv.out _))))
       refine wpQuiet_nil ?_
       intro w9 hw'
       obtain ⟨⟨wx, hb9⟩, hw''⟩ := hw'
       subst hw'')
      obtain ⟨y0, y1, -, -⟩ := (at5.bl hb57).bl hb9
      obtain ⟨z0, z1, -, -⟩ := hwb.bl hb9
      have heq := eqSelfId ns
      clear X0 X3 S0 S1 hlv hqe hxl hsl
      go_wp2_with fail
      go_ret
      exact ⟨rfl, hbw7.trans hb9⟩
  · have e2 : (o.kind == 2) = false := by simp [hk2]
    have e4 : (o.kind == 4) = false := by simp [hk4]
    obtain rfl := hoth.out hhas hk4 (fun h => absurd h hk2)
    have hwb := at7
    clear hold hmark hoth hjoin1 hjoin2
    replace hk2 := hide hk2
    replace hk4 := hide hk4
    go_wp2_with fail
    rw [← hV7]
    clear hV7 x0 x1 x2 x3 x4 hxl s0 s1 hsl
    obtain ⟨x0, x1, x2, x3, x4⟩ := (at0.bl (hbW7)).cells
    have hxl := (at0.bl (hbW7)).lt
    have X0 := fun p : Wd V7 => Wd.cell x0 hxl p
    clear x0 x1 x2 x3 x4
    (refine wp_region_wd (by kernel_rfl) (by kernel_rfl) ?_
     repeat (go_big_quiet_step ((fail)))
     refine wpQuiet_nil ?_
     intro w9 hw'
     obtain ⟨⟨wx, hb9⟩, hw''⟩ := hw'
     subst hw'')
    obtain ⟨y0, y1, -, -⟩ := (at5.bl (hb57)).bl hb9
    obtain ⟨z0, z1, -, -⟩ := hwb.bl hb9
    have heq := eqSelfId ns
    go_wp2_with fail
    go_ret
    exact ⟨rfl, (hbw7).trans hb9⟩
end Go.Proofs.Ytkolimhkfiebeaa

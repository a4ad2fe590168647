/-
  The walk of BagHas.
-/
import Derived.Test.YtkolimhkfiebeaaBagI
namespace Go.Proofs.Ytkolimhkfiebeaa
open Go.RowKit

set_option maxRecDepth 100000 in
set_option maxHeartbeats 8000000 in
theorem lawBagHas11 (A S : Option Addr) (c d : Nat) (l : List Op) (o : Op) (s : Id) (w : World) (hl : l.length ≤ 140737488355328) (hA : R cOp 0 w A l) (ho : OpIn w o S d) (hs : s.ok) :
    Calls Try.prog 12 #[.slice A l.length c, .agg #[.int .u8 o.kind, .int .u32 o.id.t, .int .u8 o.id.r, .slice S o.pl.length d, .int .i64 o.pt], .agg #[.int .u32 s.t, .int .u8 s.r]] w fun e w' => e = .returned (.bool true) ∧ Bl w w' := by
  have hlm : l.length ≤ maxLen := by unfold maxLen; omega
  have hgr := hide (fun W (hb : Bl w W) => refGreat10 A c l 60 W hl (hA.bl hb))
  have hoks := hide hA.oks
  have hox := hide ho.ok
  have pad := fun V (hb : Bl w V) => bagAdd A S c d l o V hlm (hA.bl hb) (ho.bl hb)
  obtain ⟨W, hW⟩ : ∃ W, W = (w.alloc (.cells #[Value.int IntKind.u8 o.kind, Value.int IntKind.u32 o.id.t, Value.int IntKind.u8 o.id.r, Value.slice S o.pl.length d, Value.int IntKind.i64 o.pt] 68)).alloc (.cells #[Value.int IntKind.u32 s.t, Value.int IntKind.u8 s.r] 36) := ⟨_, rfl⟩
  have hb0 : Bl w W := by rw [hW]; exact ((Bl.refl _).alloc _).alloc _
  have at0 : OpBox W w.heap.size o S d := by rw [hW]; exact (OpBox.new w o S d _).bl ((Bl.refl _).alloc _)
  have at1 : IdBox W (w.heap.size + 1) s := by
    have h := IdBox.new (w.alloc (.cells #[Value.int IntKind.u8 o.kind, Value.int IntKind.u32 o.id.t, Value.int IntKind.u8 o.id.r, Value.slice S o.pl.length d, Value.int IntKind.i64 o.pt] 68)) s 36
    rw [World.size_alloc w] at h
    rw [hW]
    exact h
  have hos := ho.small
  have heq := run_eqId s o.id
  go_enter Try.func12, Try.ntmps12
  go_wp2_with fail
  rw [← hW]
  clear hW
  refine (lawAlive11 _).mono ?_
  rintro e w1 ⟨rfl, hb1⟩
  go_wp2_with fail
  refine (hgr.out _ (hb0.trans hb1)).mono ?_
  rintro e w2 ⟨bg, rfl, -, hb2⟩
  have hbW2 : Bl W w2 := hb1.trans hb2
  cases bg
  rotate_left
  · go_wp2_with fail
    go_ret
    exact ⟨rfl, hb0.trans hbW2⟩
  obtain ⟨x0, x1, x2, x3, x4⟩ := (at0.bl hbW2).cells
  by_cases hbig : (100 : Int) < (o.pl.length : Int)
  · go_wp2_with fail
    go_ret
    exact ⟨rfl, hb0.trans hbW2⟩
  have hd1 : decide ((100 : Int) < (o.pl.length : Int)) = false := decide_eq_false hbig
  clear hbig hgr hb1 hb2
  have pad2 := hide (pad w2 (hb0.trans hbW2))
  clear pad
  go_wp2_with fail
  refine pad2.out.mono ?_
  rintro e w3 ⟨A4, c4, rfl, h41, h42, hr4, hb3⟩
  have hbW3 := hbW2.trans hb3
  have hbw3 := hb0.trans hbW3
  clear x0 x1 x2 x3 x4 hd1 pad2
  by_cases hN : addN l o = 0
  rotate_left
  · have hL : addL l o = [] := by unfold addL; rw [if_neg hN]
    have hne : (addN l o != 0) = true := by simp [hN]
    rw [hL]
    clear hr4 h41
    generalize addN l o = N at hne
    go_wp2_with fail
    go_ret
    exact ⟨rfl, hbw3⟩
  have g := has_law hN hs.2.2.1 (fun x hx => (hoks.out x hx).2.1.2.2.1) hox.out.2.1.2.2.1
  rw [hN]
  have hok1 := hide (findO_ok (s := s) hoks.out)
  have hok2 := hide (findO_ok (s := s) hr4.oks)
  have hf1 := fun V (hb : Bl w V) => bagFind A c l s V hlm hs (hA.bl hb)
  have hf2 := fun V (hb : Bl w3 V) => bagFind A4 c4 (addL l o) s V (Nat.le_trans h41 h42) hs (hr4.zero.bl hb)
  have hck := fun V (hb : Bl w3 V) => bagCheck A4 c4 (addL l o) V (Nat.le_trans h41 h42) (hr4.zero.bl hb)
  have hid := fun V (hb : Bl w3 V) => bagIdsC A4 c4 (addL l o) V (Nat.le_trans h41 h42) (hr4.zero.bl hb)
  have hcl : (bIdsL (addL l o)).length ≤ 8 := by
    unfold bIdsL
    split
    · exact eachL_len _ 8
    · exact Nat.zero_le _
  have hch := fun X x V (hX : R cTimes 0 V X (bIdsL (addL l o))) => clockHasC X x (bIdsL (addL l o)) s V (by omega) hs hX
  have hcc := fun X x V (hX : R cTimes 0 V X (bIdsL (addL l o))) => clockCountC X x (bIdsL (addL l o)) V (by unfold maxLen; omega) hX
  rw [g.may, okOr_true] at hck hid
  rw [g.has] at hch
  rw [g.cnt] at hcc
  have k2 := g.now
  have k3 := g.old
  have k4 := g.new
  clear g hN hcl
  have h4l : (addL l o).length ≤ maxLen := Nat.le_trans h41 h42
  generalize addL l o = L at *
  generalize bIdsL L = K at *
  generalize findO l s = P at *
  generalize findO L s = Q at *
  generalize findB11 l s = is at *
  generalize findB11 L s = now at *
  generalize neqId s o.id = v at *
  replace hf1 := hide hf1
  replace hf2 := hide hf2
  replace hck := hide hck
  replace hid := hide hid
  replace hch := hide hch
  replace hcc := hide hcc
  replace k2 := hide k2
  have e1 : ((L.length : Int) == (L.length : Int)) = true := beq_self_eq_true _
  have hox2 := hide (ho.bl hbw3)
  obtain ⟨y0, y1, -, -⟩ := at1.bl hbW3
  have hyl := (at1.bl hbW3).lt
  go_wp2_with fail
  refine (hf1.out _ hbw3).mono ?_
  rintro e w5 ⟨A5, c5, rfl, p51, p52, hr5, hb5⟩
  have atp := OpBox.new w5 P A5 c5 68
  have hV5 : Bl w3 (w5.alloc (.cells #[Value.int IntKind.u8 P.kind, Value.int IntKind.u32 P.id.t, Value.int IntKind.u8 P.id.r, Value.slice A5 P.pl.length c5, Value.int IntKind.i64 P.pt] 68)) := hb5.alloc _
  clear y0 y1 hyl
  obtain ⟨y0, y1, -, -⟩ := at1.bl (hbW3.trans hV5)
  have hyl := (at1.bl (hbW3.trans hb5)).lt
  have hyl2 := (at1.bl (hbW3.trans hV5)).lt
  have hne1 : w.heap.size + 1 ≠ w5.heap.size := by omega
  go_wp2_with fail
  refine (hf2.out _ hV5).mono ?_
  rintro e w6 ⟨A6, c6, rfl, p61, p62, hr6, hb6⟩
  have hb46 := hV5.trans hb6
  have atq := OpBox.new w6 Q A6 c6 68
  have hV6 : Bl w3 (w6.alloc (.cells #[Value.int IntKind.u8 Q.kind, Value.int IntKind.u32 Q.id.t, Value.int IntKind.u8 Q.id.r, Value.slice A6 Q.pl.length c6, Value.int IntKind.i64 Q.pt] 68)) := hb46.alloc _
  have hV56 : Bl (w5.alloc (.cells #[Value.int IntKind.u8 P.kind, Value.int IntKind.u32 P.id.t, Value.int IntKind.u8 P.id.r, Value.slice A5 P.pl.length c5, Value.int IntKind.i64 P.pt] 68)) (w6.alloc (.cells #[Value.int IntKind.u8 Q.kind, Value.int IntKind.u32 Q.id.t, Value.int IntKind.u8 Q.id.r, Value.slice A6 Q.pl.length c6, Value.int IntKind.i64 Q.pt] 68)) := hb6.alloc _
  clear y0 y1 hyl hyl2 hne1
  go_wp2_with fail
  refine (hid.out _ hV6).mono ?_
  rintro e w7 ⟨A7, c7, rfl, p71, p72, hr7, hb7⟩
  have hb47 := hV6.trans hb7
  obtain ⟨y0, y1, -, -⟩ := at1.bl (hbW3.trans hb47)
  have hyl := (at1.bl (hbW3.trans hb47)).lt
  obtain ⟨x0, x1, x2, x3, x4⟩ := (at0.bl (hbW3.trans hb47)).cells
  obtain ⟨z0, z1, z2, z3, z4⟩ := (atp.bl (hV56.trans hb7)).cells
  obtain ⟨u0, u1, u2, u3, u4⟩ := (atq.bl hb7).cells
  have kch := hide (fun V (hb : Bl w7 V) => hch.out A7 c7 V (hr7.zero.bl hb))
  have kcc := hide (fun V (hb : Bl w7 V) => hcc.out A7 c7 V (hr7.zero.bl hb))
  have kck := hide (fun V (hb : Bl w7 V) => hck.out V (hb47.trans hb))
  have hP := hide (show OpIn w7 P A5 c5 from ⟨hok1.out, p51, p52, hr5.zero.bl (((Bl.refl w5).alloc _).trans (hV56.trans hb7))⟩)
  have hQ := hide (show OpIn w7 Q A6 c6 from ⟨hok2.out, p61, p62, hr6.zero.bl (((Bl.refl w6).alloc _).trans hb7)⟩)
  have hO := hide (show OpIn w7 o S d from hox2.out.bl hb47)
  have hbw7 := hbw3.trans hb47
  have hbW7 := hbW3.trans hb47
  clear hch hcc hck hid hf1 hf2 hr5 hr6 hr7 hb5 hb6 hb7 hV5 hV6 hV56 hb46 hb47 p51 p52 p61 p62 atp atq hok1 hok2 hox2
  have fin := hide (fun V (hb : Bl w7 V) => at1.bl (hbW7.trans hb))
  cases is
  · cases v
    · obtain rfl : now = true := k2.out
      have hQo := k4 rfl rfl
      replace hQo := hide hQo
      clear k2 k3 k4
      go_wp2_with fail
      refine (opSame Q o A6 S c6 d _ hQ.out hO.out).mono ?_
      rintro e w8 ⟨rfl, hb8⟩
      rw [hQo.out]
      clear y0 y1 hyl x0 x1 x2 x3 x4 z0 z1 z2 z3 z4 u0 u1 u2 u3 u4
      obtain ⟨y0, y1, -, -⟩ := fin.out _ hb8
      go_wp2_with fail
      refine (kch.out _ hb8).mono ?_
      rintro e w9 ⟨rfl, hb9⟩
      go_wp2_with fail
      refine (kcc.out _ (hb8.trans hb9)).mono ?_
      rintro e w10 ⟨rfl, hb10⟩
      go_wp2_with fail
      refine (kck.out _ ((hb8.trans hb9).trans hb10)).mono ?_
      rintro e w11 ⟨rfl, hb11⟩
      go_wp2_with fail
      go_ret
      exact ⟨rfl, hbw7.trans (((hb8.trans hb9).trans hb10).trans hb11)⟩
    · obtain rfl : now = false := k2.out
      clear k2 k3 k4
      go_wp2_with fail
      refine (kch.out _ (Bl.refl _)).mono ?_
      rintro e w9 ⟨rfl, hb9⟩
      go_wp2_with fail
      refine (kcc.out _ hb9).mono ?_
      rintro e w10 ⟨rfl, hb10⟩
      go_wp2_with fail
      refine (kck.out _ (hb9.trans hb10)).mono ?_
      rintro e w11 ⟨rfl, hb11⟩
      go_wp2_with fail
      go_ret
      exact ⟨rfl, hbw7.trans ((hb9.trans hb10).trans hb11)⟩
  · obtain rfl : now = true := k2.out
    have hPQ := k3 rfl
    replace hPQ := hide hPQ
    clear k2 k3 k4
    go_wp2_with fail
    refine (opSame P Q A5 A6 c5 c6 _ hP.out hQ.out).mono ?_
    rintro e w8 ⟨rfl, hb8⟩
    rw [hPQ.out]
    clear y0 y1 hyl x0 x1 x2 x3 x4 z0 z1 z2 z3 z4 u0 u1 u2 u3 u4
    obtain ⟨y0, y1, -, -⟩ := fin.out _ hb8
    go_wp2_with fail
    refine (kch.out _ hb8).mono ?_
    rintro e w9 ⟨rfl, hb9⟩
    go_wp2_with fail
    refine (kcc.out _ (hb8.trans hb9)).mono ?_
    rintro e w10 ⟨rfl, hb10⟩
    go_wp2_with fail
    refine (kck.out _ ((hb8.trans hb9).trans hb10)).mono ?_
    rintro e w11 ⟨rfl, hb11⟩
    go_wp2_with fail
    go_ret
    exact ⟨rfl, hbw7.trans (((hb8.trans hb9).trans hb10).trans hb11)⟩
end Go.Proofs.Ytkolimhkfiebeaa

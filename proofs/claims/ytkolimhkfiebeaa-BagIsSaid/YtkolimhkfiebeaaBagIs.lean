/-
  The walk of BagIs.
-/
import Derived.Test.YtkolimhkfiebeaaBagI
import Derived.Test.YtkolimhkfiebeaaSpoil11
import Derived.Test.YtkolimhkfiebeaaOfC
namespace Go.Proofs.Ytkolimhkfiebeaa
open Go.RowKit

theorem sameSelf11B (l : List Op) {A B : Option Addr} {c d : Nat} {w : World} (hl : l.length ≤ maxLen) (hA : R cOp 0 w A l) (hB : R cOp 0 w B l) :
    Calls Try.prog 33 #[.slice A l.length c, .slice B l.length d] w fun e w' => e = .returned (.bool true) ∧ Bl w w' := by
  have h := refSame11 A B c d l l w hl hl hA hB
  rw [show same l l = true by unfold same; simp] at h
  exact h

theorem bagSameSelf (l : List Op) {A B : Option Addr} {c d : Nat} {w : World} (hl : l.length ≤ maxLen) (hA : R cOp 0 w A l) (hB : R cOp 0 w B l) :
    Calls Try.prog 50 #[.slice A l.length c, .slice B l.length d] w fun e w' => e = .returned (.bool true) ∧ Bl w w' := by
  have h := bagSame A B c d l l w hl hl hA hB
  rw [show same l l = true by unfold same; simp] at h
  exact h

set_option maxRecDepth 100000 in
set_option maxHeartbeats 8000000 in
theorem lawBagIs11 (A B : Option Addr) (c d : Nat) (a b : List Op) (s : Id) (w : World) (hla : a.length ≤ 140737488355328) (hlb : b.length ≤ 140737488355328) (hqa : ∀ x ∈ a, x.pl.length ≤ 8796093022208) (hA : R cOp 0 w A a) (hB : R cOp 0 w B b) (hs : s.ok) :
    Calls Try.prog 8 #[.slice A a.length c, .slice B b.length d, .agg #[.int .u32 s.t, .int .u8 s.r]] w fun e w' => e = .returned (.bool true) ∧ Bl w w' := by
  have ham : a.length ≤ maxLen := by unfold maxLen; omega
  have hbm : b.length ≤ maxLen := by unfold maxLen; omega
  have hga := hide (fun W (hb : Bl w W) => refGreat10 A c a 100 W hla (hA.bl hb))
  have hgb := hide (fun W (hb : Bl w W) => refGreat10 B d b 100 W hlb (hB.bl hb))
  have hoks := hide hA.oks
  obtain ⟨W, hW⟩ : ∃ W, W = w.alloc (.cells #[Value.int IntKind.u32 s.t, Value.int IntKind.u8 s.r] 36) := ⟨_, rfl⟩
  have hbW : Bl w W := by rw [hW]; exact (Bl.refl _).alloc _
  have at0 : IdBox W w.heap.size s := by rw [hW]; exact IdBox.new w s _
  replace hqa := hide hqa
  go_enter Try.func8, Try.ntmps8
  go_wp2_with fail
  rw [← hW]
  clear hW
  refine (hga.out _ hbW).mono ?_
  rintro e w2 ⟨ba, rfl, hfa, hb2⟩
  have hbw2 := hbW.trans hb2
  cases ba
  rotate_left
  · clear hfa
    go_wp2_with fail
    go_ret
    exact ⟨rfl, hbw2⟩
  replace hfa := hide (hfa rfl)
  go_wp2_with fail
  refine (hgb.out _ hbw2).mono ?_
  rintro e w3 ⟨bb, rfl, -, hb3⟩
  have hbw3 := hbw2.trans hb3
  have hbW3 := hb2.trans hb3
  cases bb
  rotate_left
  · go_wp2_with fail
    go_ret
    exact ⟨rfl, hbw3⟩
  have hn1 : a.length ≤ 100 := by have := hfa.out.1; omega
  have hca : Hid (copyB a) := hide ⟨by omega, hqa.out⟩
  have hsm : Hid (smallB a) := hide ⟨by omega, fun x hx => by
    have := hfa.out.2 x (by rw [List.take_of_length_le (by omega)]; exact hx)
    omega⟩
  have hok1 := hide (findO_ok (s := s) hoks.out)
  have hfi := fun X x V (hX : R cOp 0 V X a) => bagFind X x a s V ham hs hX
  have rfi := fun V (hb : Bl w V) => refFind11 A c a s V ham hs (hA.bl hb)
  have hid := fun X x V (hX : R cOp 0 V X a) => bagIdsC X x a V ham hX
  have rid := fun V (hb : Bl w V) => refIds11 A c a V (by omega) (hA.bl hb)
  have hck := fun X x V (hX : R cOp 0 V X a) => bagCheck X x a V ham hX
  have rck := fun V (hb : Bl w V) => refCheck11 A c a V ham (hA.bl hb)
  have htw := hide fun X x V (hX : R cOp 0 V X a) => bagTwin X x a V hsm.out hX
  have hsb := fun X x V (hX : R cOp 0 V X a) (hb : Bl w V) => bagSame X B x d a b V ham hbm hX (hB.bl hb)
  have rsb := fun V (hb : Bl w V) => refSame11 A B c d a b V ham hbm (hA.bl hb) (hB.bl hb)
  have hcl : (bIdsL a).length ≤ 8 := by
    unfold bIdsL
    split
    · exact eachL_len _ 8
    · exact Nat.zero_le _
  generalize findO a s = P at *
  generalize findB11 a s = q at *
  generalize bIdsL a = K at *
  generalize okOr 8 (bagMay a) = N at *
  generalize same a b = v at *
  have hKm : K.length ≤ maxLen := by unfold maxLen; omega
  have e1 : (N == N) = true := beq_self_eq_true _
  have e2 : (q == q) = true := by simp
  have e3 : (v == v) = true := by simp
  have e4 : eqOp P P = true := by unfold eqOp; simp
  replace e4 := hide e4
  replace hfi := hide hfi
  replace rfi := hide rfi
  replace hid := hide hid
  replace rid := hide rid
  replace hck := hide hck
  replace rck := hide rck
  replace hsb := hide hsb
  replace rsb := hide rsb
  clear hga hgb hfa hqa hoks hsm hcl
  go_wp2_with fail
  refine (refTwin11 A c a _ hca.out (hA.bl hbw3)).mono ?_
  rintro e w4 ⟨X, x, rfl, x1, x2, hX, hb4⟩
  have hbw4 := hbw3.trans hb4
  have hX4 := hide hX.zero
  obtain ⟨y0, y1, -, -⟩ := at0.bl (hbW3.trans hb4)
  go_wp2_with fail
  refine (hfi.out X x _ hX.zero).mono ?_
  rintro e w5 ⟨A5, c5, rfl, p51, p52, hr5, hb5⟩
  have atp := OpBox.new w5 P A5 c5 68
  have hV5 : Bl w4 (w5.alloc (.cells #[Value.int IntKind.u8 P.kind, Value.int IntKind.u32 P.id.t, Value.int IntKind.u8 P.id.r, Value.slice A5 P.pl.length c5, Value.int IntKind.i64 P.pt] 68)) := hb5.alloc _
  have hbW4 := hbW3.trans hb4
  clear y0 y1
  obtain ⟨y0, y1, -, -⟩ := at0.bl (hbW4.trans hV5)
  have hyl := (at0.bl (hbW4.trans hb5)).lt
  have hyl2 := (at0.bl (hbW4.trans hV5)).lt
  have hne1 : w.heap.size ≠ w5.heap.size := by omega
  go_wp2_with fail
  refine (rfi.out _ (hbw4.trans hV5)).mono ?_
  rintro e w6 ⟨A6, c6, rfl, hin6, hb6⟩
  have atq := OpBox.new w6 P A6 c6 68
  have hV6 : Bl w4 (w6.alloc (.cells #[Value.int IntKind.u8 P.kind, Value.int IntKind.u32 P.id.t, Value.int IntKind.u8 P.id.r, Value.slice A6 P.pl.length c6, Value.int IntKind.i64 P.pt] 68)) := (hV5.trans hb6).alloc _
  have hV56 : Bl (w5.alloc (.cells #[Value.int IntKind.u8 P.kind, Value.int IntKind.u32 P.id.t, Value.int IntKind.u8 P.id.r, Value.slice A5 P.pl.length c5, Value.int IntKind.i64 P.pt] 68)) (w6.alloc (.cells #[Value.int IntKind.u8 P.kind, Value.int IntKind.u32 P.id.t, Value.int IntKind.u8 P.id.r, Value.slice A6 P.pl.length c6, Value.int IntKind.i64 P.pt] 68)) := hb6.alloc _
  clear y0 y1 hyl hyl2 hne1
  go_wp2_with fail
  refine (hid.out X x _ (hX4.out.bl hV6)).mono ?_
  rintro e w7 ⟨A7, c7, rfl, p71, p72, hr7, hb7⟩
  have hb47 := hV6.trans hb7
  go_wp2_with fail
  refine (rid.out _ (hbw4.trans hb47)).mono ?_
  rintro e w8 ⟨A8, c8, rfl, p81, p82, hr8, hb8⟩
  have hb48 := hb47.trans hb8
  go_wp2_with fail
  refine (htw.out X x _ (hX4.out.bl hb48)).mono ?_
  rintro e w9 ⟨g, rfl, hown9, hb9⟩
  have hb49 := hb48.trans hb9
  obtain ⟨T, t, hvt, hT, t1, t2⟩ := hown9.reads
  injection hvt with hvt1 hvt2 hvt3
  subst hvt1 hvt3
  have h59 : Bl (w5.alloc (.cells #[Value.int IntKind.u8 P.kind, Value.int IntKind.u32 P.id.t, Value.int IntKind.u8 P.id.r, Value.slice A5 P.pl.length c5, Value.int IntKind.i64 P.pt] 68)) w8 := (hV56.trans hb7).trans hb8
  have h69 : Bl (w6.alloc (.cells #[Value.int IntKind.u8 P.kind, Value.int IntKind.u32 P.id.t, Value.int IntKind.u8 P.id.r, Value.slice A6 P.pl.length c6, Value.int IntKind.i64 P.pt] 68)) w9 := (hb7.trans hb8).trans hb9
  obtain ⟨z0, z1, z2, z3, z4⟩ := (atp.bl (h59.trans hb9)).cells
  obtain ⟨u0, u1, u2, u3, u4⟩ := (atq.bl h69).cells
  have hP5 := hide (show OpIn w8 P A5 c5 from ⟨hok1.out, p51, p52, hr5.zero.bl (((Bl.refl w5).alloc _).trans h59)⟩)
  have hPr := hide (show R cRun w4.heap.size w8 A5 P.pl from hr5.bl (((Bl.refl w5).alloc _).trans h59))
  have hP6 := hide (show OpIn w9 P A6 c6 from hin6.bl (((Bl.refl w6).alloc _).trans h69))
  have h8p : w5.heap.size < w8.heap.size := (atp.bl h59).lt
  go_wp2_with fail
  refine (refSame09 P P A5 A6 c5 c6 _ (hP5.out.bl hb9) hP6.out).mono ?_
  rintro e w10 ⟨rfl, hb10⟩
  rw [e4.out]
  clear z0 z1 z2 z3 z4 u0 u1 u2 u3 u4
  go_wp2_with fail
  refine (sameSelf08 K hKm (hr7.zero.bl ((hb8.trans hb9).trans hb10)) (hr8.zero.bl (hb9.trans hb10))).mono ?_
  rintro e w11 ⟨rfl, hb11⟩
  have hb911 := hb10.trans hb11
  go_wp2_with fail
  refine (hck.out X x _ (hX4.out.bl (hb49.trans hb911))).mono ?_
  rintro e w12 ⟨rfl, hb12⟩
  have hb912 := hb911.trans hb12
  go_wp2_with fail
  refine (rck.out _ (hbw4.trans (hb49.trans hb912))).mono ?_
  rintro e w13 ⟨rfl, hb13⟩
  have hb913 := hb912.trans hb13
  go_wp2_with fail
  refine (sameSelf11B a ham (hT.zero.bl hb913) (hA.bl (hbw4.trans (hb49.trans hb913)))).mono ?_
  rintro e w14 ⟨rfl, hb14⟩
  have hb914 := hb913.trans hb14
  go_wp2_with fail
  refine (hsb.out X x _ (hX4.out.bl (hb49.trans hb914)) (hbw4.trans (hb49.trans hb914))).mono ?_
  rintro e w15 ⟨rfl, hb15⟩
  have hb915 := hb914.trans hb15
  go_wp2_with fail
  refine (rsb.out _ (hbw4.trans (hb49.trans hb915))).mono ?_
  rintro e w16 ⟨rfl, hb16⟩
  have hb916 := hb915.trans hb16
  go_wp2_with fail
  refine (bagSameSelf a ham (hX4.out.bl (hb49.trans hb916)) (hA.bl (hbw4.trans (hb49.trans hb916)))).mono ?_
  rintro e w17 ⟨rfl, hb17⟩
  have hb917 := hb916.trans hb17
  go_wp2_with fail
  refine (lawSpoil11 w8.heap.size _ _ a w17 _ (Sm.refl _) (by omega) (hT.bl hb917)).mono ?_
  rintro e w18 ⟨⟨v1, rfl⟩, hB18, -⟩
  have hb818 : Bl w8 w18 := (hb9.trans hb917).step hB18
  have hb418 := hb48.trans hb818
  obtain ⟨z0, z1, z2, z3, z4⟩ := (atp.bl (h59.trans hb818)).cells
  have hzl := (atp.bl (h59.trans hb818)).lt
  have hP18 := hPr.out.bl hb818
  have hlist := hide (show R cOp w4.heap.size (w18.alloc (.cells #[Value.int IntKind.u8 P.kind, Value.int IntKind.u32 P.id.t, Value.int IntKind.u8 P.id.r, Value.slice A5 P.pl.length c5, Value.int IntKind.i64 P.pt] 68)) (some ⟨w18.heap.size, 0, none⟩) [P] from
    R.newL (C := cOp) (cells := opCells P A5 c5) (RdL.one1 (C := cOp) ⟨hok1.out, A5, c5, p51, p52, rfl, hP18⟩) hb418.size)
  go_wp2_with fail
  refine (lawSpoil11 w4.heap.size (some ⟨w18.heap.size, 0, none⟩) 1 [P] _ _ (Sm.refl _) (by simp) hlist.out).mono ?_
  rintro e w19 ⟨⟨v2, rfl⟩, hB19, -⟩
  have hb419 : Bl w4 w19 := (hb418.alloc _).step hB19
  go_wp2_with fail
  refine (sameSelf11B a ham (hX4.out.bl hb419) (hA.bl (hbw4.trans hb419))).mono ?_
  rintro e w20 ⟨rfl, hb20⟩
  go_wp2_with fail
  go_ret
  exact ⟨rfl, (hbw4.trans hb419).trans hb20⟩
end Go.Proofs.Ytkolimhkfiebeaa

/-
  The walk of BagNames.
-/
import Derived.Test.YtkolimhkfiebeaaBagIs
namespace Go.Proofs.Ytkolimhkfiebeaa
open Go.RowKit

def cThree : List Times := [⟨0, [⟨3, 3⟩]⟩]

def cBoth : List Times := [⟨0, [⟨3, 3⟩]⟩, ⟨1, [⟨1, 1⟩]⟩]

theorem ofC_names : ofC [⟨1, 1⟩, ⟨3, 0⟩] = cBoth := by
  unfold cBoth
  refine ofC_is (by decide) (by decide) (by decide) fun r hr u => ?_
  match r, hr with
  | 0, _ => rw [Bool.eq_iff_iff]; simp [firstOf, timesOf, spansHave]; omega
  | 1, _ => rw [Bool.eq_iff_iff]; simp [firstOf, timesOf, spansHave]; omega
  | 2, _ => rfl
  | 3, _ => rfl
  | 4, _ => rfl
  | 5, _ => rfl
  | 6, _ => rfl
  | 7, _ => rfl

theorem plain_n : lessN [m11, m30] cThree = 0 ∧ lessL [m11, m30] cThree = [m11] ∧ bagMay [m11, m30] = true ∧ bagMay [m30, m11] = false ∧ addN [] zeroOp = 8 ∧ addL [] zeroOp = [] := by decide

theorem lessNm (A C : Option Addr) (c d : Nat) (w : World) (hA : R cOp 0 w A [m11, m30]) (hC : R cTimes 0 w C cThree) :
    Calls Try.prog 62 #[.slice A 2 c, .slice C 1 d] w fun e w' => ∃ A' c', e = .returned (.tuple #[.slice A' 1 c', .int .i64 0]) ∧ 1 ≤ c' ∧ c' ≤ maxLen ∧ R cOp w.heap.size w' A' [m11] ∧ Bl w w' := by
  have h := bagLess A C c d [m11, m30] cThree w (by decide) (by decide) hA hC
  rw [plain_n.1, plain_n.2.1] at h
  exact h

theorem idsNm (A : Option Addr) (c : Nat) (w : World) (hA : R cOp 0 w A [m11, m30]) :
    Calls Try.prog 43 #[.slice A 2 c] w fun e w' => ∃ A' c', e = .returned (.tuple #[.slice A' 2 c', .int .i64 0]) ∧ 2 ≤ c' ∧ c' ≤ maxLen ∧ R cTimes w.heap.size w' A' cBoth ∧ Bl w w' := by
  have h := bagIdsC A c [m11, m30] w (by decide) hA
  have e : bIdsL [m11, m30] = cBoth := by
    unfold bIdsL
    rw [plain_n.2.2.1, if_pos rfl]
    exact ofC_names
  rw [e, plain_n.2.2.1] at h
  exact h

theorem addNm (w : World) : Calls Try.prog 52 #[.slice none 0 0, .agg #[.int .u8 0, .int .u32 0, .int .u8 0, .slice none 0 0, .int .i64 0]] w fun e w' => ∃ A' c', e = .returned (.tuple #[.slice A' 0 c', .int .i64 8]) ∧ Bl w w' := by
  have h := bagAdd none none 0 0 [] zeroOp w (Nat.zero_le _) R.nil ⟨by unfold zeroOp Op.ok Id.ok u8ok i64ok; decide, Nat.le_refl _, Nat.zero_le _, R.nil⟩
  rw [plain_n.2.2.2.2.1, plain_n.2.2.2.2.2] at h
  refine h.mono ?_
  rintro e w' ⟨A, c, rfl, _, _, _, hb⟩
  exact ⟨A, c, rfl, hb⟩

theorem checkNm (A : Option Addr) (c : Nat) (w : World) (hA : R cOp 0 w A [m30, m11]) :
    Calls Try.prog 48 #[.slice A 2 c] w fun e w' => e = .returned (.int .i64 8) ∧ Bl w w' := by
  have h := bagCheck A c [m30, m11] w (by decide) hA
  rw [plain_n.2.2.2.1] at h
  exact h

theorem sameNm (A B : Option Addr) (c d : Nat) (w : World) (hA : R cOp 0 w A [m11]) (hB : R cOp 0 w B [m11]) :
    Calls Try.prog 64 #[.slice A 1 c, .slice B 1 d] w fun e w' => e = .returned (.bool true) ∧ Bl w w' := by
  have := refSame10 A B c d [m11] [m11] w (by decide) (by decide) hA hB
  rw [show same [m11] [m11] = true by unfold same; simp] at this
  exact this

theorem sameTm (A B : Option Addr) (c d : Nat) (w : World) (hA : R cTimes 0 w A cBoth) (hB : R cTimes 0 w B cBoth) :
    Calls Try.prog 47 #[.slice A 2 c, .slice B 2 d] w fun e w' => e = .returned (.bool true) ∧ Bl w w' := sameSelf08 cBoth (by decide) hA hB

theorem R.span1 {w : World} (x : Span) (hx : x.ok) (t : TypeId) : R cSpan 0 (w.alloc (.cells #[.int .u32 x.f, .int .u32 x.t] t)) (some ⟨w.heap.size, 0, none⟩) [x] :=
  R.newL (C := cSpan) (cells := [.int .u32 x.f, .int .u32 x.t]) (RdL.one1 (C := cSpan) ⟨hx, rfl⟩) (Nat.zero_le _)

set_option maxRecDepth 100000 in
set_option maxHeartbeats 4000000 in
theorem lawBagNames11 (w : World) : Calls Try.prog 11 #[] w fun e w' => e = .returned (.bool true) ∧ Bl w w' := by
  have l1 : m30.pl.length = 1 := rfl
  have l2 : m11.pl.length = 1 := rfl
  go_enter Try.func11, Try.ntmps11
  go_wp2_with fail
  refine (one30 _).mono ?_
  rintro e w1 ⟨A1, c1, rfl, p1, p2, hr1, hb1⟩
  go_wp2_with fail
  refine (one11 _).mono ?_
  rintro e w2 ⟨A2, c2, rfl, q1, q2, hr2, hb2⟩
  have hB := rd_ops2 m30_ok m11_ok p1 p2 q1 q2 (hr1.zero.bl hb2) hr2.zero 68
  go_wp2_with fail
  refine (putA _ _ _ hB).mono ?_
  rintro e w3 ⟨A3, c3, rfl, h31, h32, hr3, hb3⟩
  have hbl3 : Bl w w3 := ((hb1.trans hb2).alloc _).trans hb3
  clear hB hr1 hr2
  have hs1 := R.span1 (w := w3) ⟨3, 3⟩ (by unfold Span.ok; decide) 93
  have hV3 : Bl w3 ((w3.alloc (.cells #[.int .u32 3, .int .u32 3] 93)).alloc (.cells #[.int .u8 0, .slice (some ⟨w3.heap.size, 0, none⟩) 1 1] 96)) := ((Bl.refl _).alloc _).alloc _
  have hc3 := R.times1 (r := 0) (l := [⟨3, 3⟩]) (n := 1) (d := 1) 96 (by omega) rfl (Nat.le_refl _) (by decide) hs1
  have hat := At.new (w3.alloc (.cells #[.int .u32 3, .int .u32 3] 93)) [.int .u8 0, .slice (some ⟨w3.heap.size, 0, none⟩) 1 1] 96
  rw [World.size_alloc w3] at hc3 hat
  obtain ⟨V, hV⟩ : ∃ V, V = (w3.alloc (.cells #[.int .u32 3, .int .u32 3] 93)).alloc (.cells #[.int .u8 0, .slice (some ⟨w3.heap.size, 0, none⟩) 1 1] 96) := ⟨_, rfl⟩
  have hs1V : R cSpan 0 V (some ⟨w3.heap.size, 0, none⟩) [⟨3, 3⟩] := by rw [hV]; exact hs1.bl ((Bl.refl _).alloc _)
  have hc3V : R cTimes 0 V (some ⟨w3.heap.size + 1, 0, none⟩) cThree := by rw [hV]; exact hc3
  have hatV : At V (w3.heap.size + 1) 0 [.int .u8 0, .slice (some ⟨w3.heap.size, 0, none⟩) 1 1] := by rw [hV]; exact hat
  have hbV : Bl w3 V := by rw [hV]; exact hV3
  clear hs1 hc3 hat hV3
  go_wp2_with fail
  rw [← hV]
  clear hV
  refine (lessNm A3 _ c3 _ _ (hr3.bl hbV) hc3V).mono ?_
  rintro e w4 ⟨A4, c4, rfl, r1, r2, hr4, hb4⟩
  go_wp2_with fail
  refine (idsNm A3 c3 _ (hr3.bl (hbV.trans hb4))).mono ?_
  rintro e w5 ⟨A5, c5, rfl, s1, s2, hr5, hb5⟩
  go_wp2_with fail
  refine (addNm _).mono ?_
  rintro e w6 ⟨A6, c6, rfl, hb6⟩
  have hV6 := hb4.trans (hb5.trans hb6)
  have hat6 := hatV.bl hV6 (by simp)
  have t0 := (hat6 0 _ rfl).1
  have t1 := (hat6 1 _ rfl).1
  simp only [Nat.zero_add] at t0 t1
  have htl := hat6.lt (by simp)
  have hs2 := R.span1 (w := w6) ⟨1, 1⟩ (by unfold Span.ok; decide) 93
  have hw := R.times2 (r := 0) (s := 1) (l := [⟨3, 3⟩]) (m := [⟨1, 1⟩]) (n := 1) (d := 1) (k := 1) (f := 1) 96 (by omega) (by omega) rfl (Nat.le_refl _) (by decide) ((hs1V.bl hV6).bl ((Bl.refl w6).alloc (.cells #[.int .u32 1, .int .u32 1] 93))) rfl (Nat.le_refl _) (by decide) hs2
  rw [World.size_alloc w6] at hw
  have hwh := hide (show R cTimes 0 _ _ cBoth from hw)
  have hV2 : Bl w6 ((w6.alloc (.cells #[.int .u32 1, .int .u32 1] 93)).alloc (.cells #[.int .u8 0, .slice (some ⟨w3.heap.size, 0, none⟩) 1 1, .int .u8 1, .slice (some ⟨w6.heap.size, 0, none⟩) 1 1] 96)) := ((Bl.refl _).alloc _).alloc _
  clear hs2 hw
  go_wp2_with fail
  refine (lawAlive11 _).mono ?_
  rintro e w7 ⟨rfl, hb7⟩
  have hb67 := hV2.trans hb7
  have hw7 := hide (hwh.out.bl hb7)
  clear hwh t0 t1
  go_wp2_with fail
  refine (one11 _).mono ?_
  rintro e w8 ⟨A8, c8, rfl, u1, u2, hr8, hb8⟩
  have hB := rd_ops1 m11_ok u1 u2 hr8.zero 68
  have hV8 : Bl w7 (w8.alloc (.cells (opCells m11 A8 c8).toArray 68)) := hb8.alloc _
  have hb48 := ((hb5.trans hb6).trans hb67).trans hV8
  go_wp2_with fail
  refine (sameNm A4 _ c4 _ _ (hr4.zero.bl hb48) hB).mono ?_
  rintro e w9 ⟨rfl, hb9⟩
  have hb79 := hV8.trans hb9
  clear hB hr8
  go_wp2_with fail
  refine (sameTm A5 _ c5 _ _ (hr5.zero.bl (hb6.trans (hb67.trans hb79))) (hw7.out.bl hb79)).mono ?_
  rintro e w10 ⟨rfl, hb10⟩
  go_wp2_with fail
  refine (one30 _).mono ?_
  rintro e w11 ⟨A11, c11, rfl, v1, v2, hr11, hb11⟩
  go_wp2_with fail
  refine (one11 _).mono ?_
  rintro e w12 ⟨A12, c12, rfl, x1, x2, hr12, hb12⟩
  have hB := rd_ops2 m30_ok m11_ok v1 v2 x1 x2 (hr11.zero.bl hb12) hr12.zero 68
  have hV12 : Bl w10 (w12.alloc (.cells (opCells m30 A11 c11 ++ opCells m11 A12 c12).toArray 68)) := (hb11.trans hb12).alloc _
  go_wp2_with fail
  refine (checkNm _ _ _ hB).mono ?_
  rintro e w13 ⟨rfl, hb13⟩
  go_wp2_with fail
  go_ret
  exact ⟨rfl, hbl3.trans (hbV.trans (hV6.trans (hb67.trans (hb79.trans (hb10.trans (hV12.trans hb13))))))⟩
end Go.Proofs.Ytkolimhkfiebeaa

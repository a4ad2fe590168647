/-
  The walk of ClockNames (printed by gen08.py).
-/
import Derived.Test.YtiimpmdnkjhcoaaLawB
import Derived.Laws.MakeOwn
namespace Go.Proofs.Ytiimpmdnkjhcoaa
open Go.RowKit

theorem join08 (A B : Option Addr) (c d m k n : Nat) (a b L : List Times) (N : Int) (w : World) (hm : m = a.length) (hk : k = b.length) (ha : a.length ≤ 1024) (hb : b.length ≤ 1024) (hn : n = L.length) (hL : rcL bothF a b = L) (hN : rcN bothF a b = N) (hA : R cTimes 0 w A a) (hB : R cTimes 0 w B b) :
    Calls Try.prog 28 #[.slice A m c, .slice B k d] w (NewC L n N w) := by
  subst hm hk hn
  have h := clockJoin A B c d a b w (by omega) (by omega) hA hB
  rw [(cjoin_eq a b).1, (cjoin_eq a b).2, hL, hN] at h
  exact h

theorem less08 (A B : Option Addr) (c d m k n : Nat) (a b L : List Times) (N : Int) (w : World) (hm : m = a.length) (hk : k = b.length) (ha : a.length ≤ 1024) (hb : b.length ≤ 1024) (hn : n = L.length) (hL : rcL leftF a b = L) (hN : rcN leftF a b = N) (hA : R cTimes 0 w A a) (hB : R cTimes 0 w B b) :
    Calls Try.prog 30 #[.slice A m c, .slice B k d] w (NewC L n N w) := by
  subst hm hk hn
  have h := clockLess A B c d a b w (by omega) (by omega) hA hB
  rw [(cless_eq a b).1, (cless_eq a b).2, hL, hN] at h
  exact h

theorem ids08 (A : Option Addr) (c m n : Nat) (a : List Times) (L : List Id) (N : Int) (w : World) (hm : m = a.length) (ha : a.length ≤ 1024) (hn : n = L.length) (hL : clockIds a = L) (hN : clockIdsErr a = N) (hA : R cTimes 0 w A a) :
    Calls Try.prog 47 #[.slice A m c] w fun e w' => ∃ A' c', e = .returned (.tuple #[.slice A' n c', .int .i64 N]) ∧ n ≤ c' ∧ c' ≤ maxLen ∧ R cId w.heap.size w' A' L ∧ Bl w w' := by
  subst hm hn
  have h := clockIdsC A c a w (by unfold maxLen; omega) hA
  rw [hL, hN] at h
  exact h

theorem top08 (A : Option Addr) (c m : Nat) (n : Int) (a : List Times) (w : World) (hm : m = a.length) (ha : a.length ≤ 1024) (hL : clockTopF a = n) (hA : R cTimes 0 w A a) :
    Calls Try.prog 56 #[.slice A m c] w fun e w' => e = .returned (.int .u32 n) ∧ Bl w w' := by
  subst hm hL
  exact clockTop A c a w (by unfold maxLen; omega) hA

theorem count08 (A : Option Addr) (c m : Nat) (n : Int) (a : List Times) (w : World) (hm : m = a.length) (ha : a.length ≤ 1024) (hL : clockCount a = n) (hA : R cTimes 0 w A a) :
    Calls Try.prog 54 #[.slice A m c] w fun e w' => e = .returned (.int .i64 n) ∧ Bl w w' := by
  subst hm hL
  exact clockCountC A c a w (by unfold maxLen; omega) hA

theorem check08 (A : Option Addr) (c m : Nat) (n : Int) (a : List Times) (w : World) (hm : m = a.length) (ha : a.length ≤ 1024) (hL : okOr 8 (clockMay a) = n) (hA : R cTimes 0 w A a) :
    Calls Try.prog 45 #[.slice A m c] w fun e w' => e = .returned (.int .i64 n) ∧ Bl w w' := by
  subst hm hL
  exact clockCheck A c a w (by unfold maxLen; omega) hA

theorem clockOf_big (A : Option Addr) (c n : Nat) (w : World) (h : 1024 < n) : Calls Try.prog 49 #[.slice A n c] w (NewC [] 0 4 w) := by
  have hbi : (1024 : Int) < (n : Int) := by omega
  clear h
  go_enter Try.func49, Try.ntmps49
  go_wp2_with fail
  go_ret2
  exact ⟨none, 0, rfl, Nat.le_refl _, Nat.zero_le _, R.nil, Bl.refl _⟩

theorem make1025 : ∃ o : Obj, ∀ V : World, (Instr.makeSlice 61 (.int .i64 1025) (.int .i64 1025)).run Try.prog V = .ok (.slice (some ⟨V.heap.size, 0, none⟩) 1025 1025) (V.alloc o) := by
  obtain ⟨i0, hi, hz0, hz1, hz2⟩ := info_parts Try.infoId
  refine ⟨.cells (madeCells #[Value.int IntKind.u32 0, Value.int IntKind.u8 0] (1025 * 2)) 39, fun V => ?_⟩
  have := run_make (P := Try.prog) V 61 39 i0 _ Try.underlying61 hi hz0 .i64 .i64 1025 1025 (by omega) (Int.le_refl _) (by rw [hz2]; omega) (by omega)
  rw [hz1] at this
  exact this

set_option maxRecDepth 100000 in
set_option maxHeartbeats 8000000 in
theorem lawClockNames08 (w : World) : Calls Try.prog 11 #[] w fun e w' => e = .returned (.bool true) ∧ Bl w w' := by
  obtain ⟨big, hmk⟩ := make1025
  go_enter Try.func11, Try.ntmps11
  go_wp2_with fail
  refine (of08 0 (some ⟨w.heap.size, 0, none⟩) 2 1 1 2 [⟨1, 2⟩] [1, 2] _ rfl rfl (by omega) rfl rfl (R.lit [1, 2] (u32ok_all (by decide)) w _)).mono ?_
  rintro e w1 ⟨A, Ad, rfl, A1, A2, hA, hb1⟩
  have hP : R cTimes 0 (w1.alloc (.cells #[.int .u8 0, .slice A 1 Ad] 73)) (some ⟨w1.heap.size, 0, none⟩) [⟨0, [⟨1, 2⟩]⟩] := R.times1 _ (by decide) rfl A1 A2 (hA.zero.bl (by repeat first | assumption | exact Bl.refl _ | refine Bl.alloc ?_ _ | refine Bl.trans ?_ (by assumption)))
  have hL := R.lit [3, 3] (u32ok_all (by decide)) (w1.alloc (.cells #[.int .u8 0, .slice A 1 Ad] 73)) 23
  rw [World.size_alloc w1] at hL
  go_wp2_with fail
  refine (of08 0 (some ⟨w1.heap.size + 1, 0, none⟩) 2 1 1 2 [⟨3, 3⟩] [3, 3] _ rfl rfl (by omega) rfl rfl hL).mono ?_
  rintro e w2 ⟨B, Bd, rfl, B1, B2, hB, hb2⟩
  clear hL
  go_wp2_with fail
  refine (of08 2 (some ⟨w2.heap.size, 0, none⟩) 2 1 1 2 [⟨7, 7⟩] [7, 7] _ rfl rfl (by omega) rfl rfl (R.lit [7, 7] (u32ok_all (by decide)) w2 _)).mono ?_
  rintro e w3 ⟨C, Cd, rfl, C1, C2, hC, hb3⟩
  have hQ : R cTimes 0 (w3.alloc (.cells #[.int .u8 0, .slice B 1 Bd, .int .u8 2, .slice C 1 Cd] 73)) (some ⟨w3.heap.size, 0, none⟩) [⟨0, [⟨3, 3⟩]⟩, ⟨2, [⟨7, 7⟩]⟩] := R.times2 _ (by decide) (by decide) rfl B1 B2 (hB.zero.bl (by repeat first | assumption | exact Bl.refl _ | refine Bl.alloc ?_ _ | refine Bl.trans ?_ (by assumption))) rfl C1 C2 (hC.zero.bl (by repeat first | assumption | exact Bl.refl _ | refine Bl.alloc ?_ _ | refine Bl.trans ?_ (by assumption)))
  go_wp2_with fail
  refine (join08 _ _ 1 2 1 2 2 [⟨0, [⟨1, 2⟩]⟩] [⟨0, [⟨3, 3⟩]⟩, ⟨2, [⟨7, 7⟩]⟩] [⟨0, [⟨1, 3⟩]⟩, ⟨2, [⟨7, 7⟩]⟩] 0 _ rfl rfl (by decide) (by decide) rfl (by decide) (by decide) (hP.bl (by repeat first | assumption | exact Bl.refl _ | refine Bl.alloc ?_ _ | refine Bl.trans ?_ (by assumption))) hQ).mono ?_
  rintro e w4 ⟨X, x, rfl, X1, X2, hX, hb4⟩
  go_wp2_with fail
  refine (of08 0 (some ⟨w4.heap.size, 0, none⟩) 2 1 1 2 [⟨1, 9⟩] [1, 9] _ rfl rfl (by omega) rfl rfl (R.lit [1, 9] (u32ok_all (by decide)) w4 _)).mono ?_
  rintro e w5 ⟨D, Dd, rfl, D1, D2, hD, hb5⟩
  go_wp2_with fail
  refine (of08 1 (some ⟨w5.heap.size, 0, none⟩) 2 1 1 2 [⟨1, 1⟩] [1, 1] _ rfl rfl (by omega) rfl rfl (R.lit [1, 1] (u32ok_all (by decide)) w5 _)).mono ?_
  rintro e w6 ⟨E, Ed, rfl, E1, E2, hE, hb6⟩
  have hS : R cTimes 0 (w6.alloc (.cells #[.int .u8 0, .slice D 1 Dd, .int .u8 1, .slice E 1 Ed] 73)) (some ⟨w6.heap.size, 0, none⟩) [⟨0, [⟨1, 9⟩]⟩, ⟨1, [⟨1, 1⟩]⟩] := R.times2 _ (by decide) (by decide) rfl D1 D2 (hD.zero.bl (by repeat first | assumption | exact Bl.refl _ | refine Bl.alloc ?_ _ | refine Bl.trans ?_ (by assumption))) rfl E1 E2 (hE.zero.bl (by repeat first | assumption | exact Bl.refl _ | refine Bl.alloc ?_ _ | refine Bl.trans ?_ (by assumption)))
  have hL := R.lit [2, 9] (u32ok_all (by decide)) (w6.alloc (.cells #[.int .u8 0, .slice D 1 Dd, .int .u8 1, .slice E 1 Ed] 73)) 23
  rw [World.size_alloc w6] at hL
  go_wp2_with fail
  refine (of08 0 (some ⟨w6.heap.size + 1, 0, none⟩) 2 1 1 2 [⟨2, 9⟩] [2, 9] _ rfl rfl (by omega) rfl rfl hL).mono ?_
  rintro e w7 ⟨F, Fd, rfl, F1, F2, hF, hb7⟩
  clear hL
  go_wp2_with fail
  refine (of08 1 (some ⟨w7.heap.size, 0, none⟩) 2 1 1 2 [⟨1, 5⟩] [1, 5] _ rfl rfl (by omega) rfl rfl (R.lit [1, 5] (u32ok_all (by decide)) w7 _)).mono ?_
  rintro e w8 ⟨H, Hd, rfl, H1, H2, hH, hb8⟩
  have hT : R cTimes 0 (w8.alloc (.cells #[.int .u8 0, .slice F 1 Fd, .int .u8 1, .slice H 1 Hd] 73)) (some ⟨w8.heap.size, 0, none⟩) [⟨0, [⟨2, 9⟩]⟩, ⟨1, [⟨1, 5⟩]⟩] := R.times2 _ (by decide) (by decide) rfl F1 F2 (hF.zero.bl (by repeat first | assumption | exact Bl.refl _ | refine Bl.alloc ?_ _ | refine Bl.trans ?_ (by assumption))) rfl H1 H2 (hH.zero.bl (by repeat first | assumption | exact Bl.refl _ | refine Bl.alloc ?_ _ | refine Bl.trans ?_ (by assumption)))
  go_wp2_with fail
  refine (less08 _ _ 2 2 2 2 1 [⟨0, [⟨1, 9⟩]⟩, ⟨1, [⟨1, 1⟩]⟩] [⟨0, [⟨2, 9⟩]⟩, ⟨1, [⟨1, 5⟩]⟩] [⟨0, [⟨1, 1⟩]⟩] 0 _ rfl rfl (by decide) (by decide) rfl (by decide) (by decide) (hS.bl (by repeat first | assumption | exact Bl.refl _ | refine Bl.alloc ?_ _ | refine Bl.trans ?_ (by assumption))) hT).mono ?_
  rintro e w9 ⟨Y, y, rfl, Y1, Y2, hY, hb9⟩
  go_wp2_with fail
  refine (of08 0 (some ⟨w9.heap.size, 0, none⟩) 2 1 1 2 [⟨1, 3⟩] [1, 3] _ rfl rfl (by omega) rfl rfl (R.lit [1, 3] (u32ok_all (by decide)) w9 _)).mono ?_
  rintro e w10 ⟨IA, IAd, rfl, IA1, IA2, hIA, hb10⟩
  go_wp2_with fail
  refine (of08 2 (some ⟨w10.heap.size, 0, none⟩) 2 1 1 2 [⟨7, 7⟩] [7, 7] _ rfl rfl (by omega) rfl rfl (R.lit [7, 7] (u32ok_all (by decide)) w10 _)).mono ?_
  rintro e w11 ⟨J, Jd, rfl, J1, J2, hJ, hb11⟩
  have hU : R cTimes 0 (w11.alloc (.cells #[.int .u8 0, .slice IA 1 IAd, .int .u8 2, .slice J 1 Jd] 73)) (some ⟨w11.heap.size, 0, none⟩) [⟨0, [⟨1, 3⟩]⟩, ⟨2, [⟨7, 7⟩]⟩] := R.times2 _ (by decide) (by decide) rfl IA1 IA2 (hIA.zero.bl (by repeat first | assumption | exact Bl.refl _ | refine Bl.alloc ?_ _ | refine Bl.trans ?_ (by assumption))) rfl J1 J2 (hJ.zero.bl (by repeat first | assumption | exact Bl.refl _ | refine Bl.alloc ?_ _ | refine Bl.trans ?_ (by assumption)))
  go_wp2_with fail
  refine (same08k 2 [⟨0, [⟨1, 3⟩]⟩, ⟨2, [⟨7, 7⟩]⟩] rfl (by decide) (hX.zero.bl (by repeat first | assumption | exact Bl.refl _ | refine Bl.alloc ?_ _ | refine Bl.trans ?_ (by assumption))) hU).mono ?_
  rintro e w12 ⟨rfl, hb12⟩
  go_wp2_with fail
  refine (of08 0 (some ⟨w12.heap.size, 0, none⟩) 2 1 1 2 [⟨1, 1⟩] [1, 1] _ rfl rfl (by omega) rfl rfl (R.lit [1, 1] (u32ok_all (by decide)) w12 _)).mono ?_
  rintro e w13 ⟨K, Kd, rfl, K1, K2, hK, hb13⟩
  have hV : R cTimes 0 (w13.alloc (.cells #[.int .u8 0, .slice K 1 Kd] 73)) (some ⟨w13.heap.size, 0, none⟩) [⟨0, [⟨1, 1⟩]⟩] := R.times1 _ (by decide) rfl K1 K2 (hK.zero.bl (by repeat first | assumption | exact Bl.refl _ | refine Bl.alloc ?_ _ | refine Bl.trans ?_ (by assumption)))
  go_wp2_with fail
  refine (same08k 1 [⟨0, [⟨1, 1⟩]⟩] rfl (by decide) (hY.zero.bl (by repeat first | assumption | exact Bl.refl _ | refine Bl.alloc ?_ _ | refine Bl.trans ?_ (by assumption))) hV).mono ?_
  rintro e w14 ⟨rfl, hb14⟩
  go_wp2_with fail
  refine (lawBy08 0 0 _).mono ?_
  rintro e w15 ⟨rfl, hb15⟩
  go_wp2_with fail
  refine (add08 none 0 0 0 [] 0 0 [] 8 _ rfl (by decide) (by unfold Id.ok; decide) rfl (by decide) (by decide) R.nil).mono ?_
  rintro e w16 ⟨Z, z, rfl, -, -, -, hb16⟩
  go_wp2_with fail
  refine (of08 0 (some ⟨w16.heap.size, 0, none⟩) 2 1 1 2 [⟨1, 1025⟩] [1, 1025] _ rfl rfl (by omega) rfl rfl (R.lit [1, 1025] (u32ok_all (by decide)) w16 _)).mono ?_
  rintro e w17 ⟨M, Md, rfl, M1, M2, hM, hb17⟩
  have hN : R cTimes 0 (w17.alloc (.cells #[.int .u8 0, .slice M 1 Md] 73)) (some ⟨w17.heap.size, 0, none⟩) [⟨0, [⟨1, 1025⟩]⟩] := R.times1 _ (by decide) rfl M1 M2 (hM.zero.bl (by repeat first | assumption | exact Bl.refl _ | refine Bl.alloc ?_ _ | refine Bl.trans ?_ (by assumption)))
  go_wp2_with fail
  refine (ids08 _ 1 1 0 [⟨0, [⟨1, 1025⟩]⟩] [] 4 _ rfl (by decide) rfl (by decide) (by decide) hN).mono ?_
  rintro e w18 ⟨O, o, rfl, -, -, -, hb18⟩
  go_wp2_with fail
  refine (clockOf_big _ _ 1025 _ (by decide)).mono ?_
  rintro e w19 ⟨W, v, rfl, -, -, -, hb19⟩
  go_wp2_with fail
  refine (of08 0 (some ⟨w19.heap.size, 0, none⟩) 2 1 1 2 [⟨9, 9⟩] [9, 9] _ rfl rfl (by omega) rfl rfl (R.lit [9, 9] (u32ok_all (by decide)) w19 _)).mono ?_
  rintro e w20 ⟨AA, AAd, rfl, AA1, AA2, hAA, hb20⟩
  go_wp2_with fail
  refine (of08 1 (some ⟨w20.heap.size, 0, none⟩) 2 1 1 2 [⟨3, 4⟩] [3, 4] _ rfl rfl (by omega) rfl rfl (R.lit [3, 4] (u32ok_all (by decide)) w20 _)).mono ?_
  rintro e w21 ⟨AB, ABd, rfl, AB1, AB2, hAB, hb21⟩
  have hAC : R cTimes 0 (w21.alloc (.cells #[.int .u8 0, .slice AA 1 AAd, .int .u8 1, .slice AB 1 ABd] 73)) (some ⟨w21.heap.size, 0, none⟩) [⟨0, [⟨9, 9⟩]⟩, ⟨1, [⟨3, 4⟩]⟩] := R.times2 _ (by decide) (by decide) rfl AA1 AA2 (hAA.zero.bl (by repeat first | assumption | exact Bl.refl _ | refine Bl.alloc ?_ _ | refine Bl.trans ?_ (by assumption))) rfl AB1 AB2 (hAB.zero.bl (by repeat first | assumption | exact Bl.refl _ | refine Bl.alloc ?_ _ | refine Bl.trans ?_ (by assumption)))
  go_wp2_with fail
  refine (lawAlive08 _).mono ?_
  rintro e w22 ⟨rfl, hb22⟩
  go_wp2_with fail
  refine (top08 _ 2 2 9 [⟨0, [⟨9, 9⟩]⟩, ⟨1, [⟨3, 4⟩]⟩] _ rfl (by decide) (by decide) (hAC.bl (by repeat first | assumption | exact Bl.refl _ | refine Bl.alloc ?_ _ | refine Bl.trans ?_ (by assumption)))).mono ?_
  rintro e w23 ⟨rfl, hb23⟩
  go_wp2_with fail
  refine (count08 _ 2 2 3 [⟨0, [⟨9, 9⟩]⟩, ⟨1, [⟨3, 4⟩]⟩] _ rfl (by decide) (by decide) (hAC.bl (by repeat first | assumption | exact Bl.refl _ | refine Bl.alloc ?_ _ | refine Bl.trans ?_ (by assumption)))).mono ?_
  rintro e w24 ⟨rfl, hb24⟩
  go_wp2_with fail
  refine (of08 1 (some ⟨w24.heap.size, 0, none⟩) 2 1 1 2 [⟨3, 5⟩] [3, 5] _ rfl rfl (by omega) rfl rfl (R.lit [3, 5] (u32ok_all (by decide)) w24 _)).mono ?_
  rintro e w25 ⟨AD, ADd, rfl, AD1, AD2, hAD, hb25⟩
  go_wp2_with fail
  refine (of08 0 (some ⟨w25.heap.size, 0, none⟩) 2 1 1 2 [⟨1, 1⟩] [1, 1] _ rfl rfl (by omega) rfl rfl (R.lit [1, 1] (u32ok_all (by decide)) w25 _)).mono ?_
  rintro e w26 ⟨AE, AEd, rfl, AE1, AE2, hAE, hb26⟩
  have hAF : R cTimes 0 (w26.alloc (.cells #[.int .u8 1, .slice AD 1 ADd, .int .u8 0, .slice AE 1 AEd] 73)) (some ⟨w26.heap.size, 0, none⟩) [⟨1, [⟨3, 5⟩]⟩, ⟨0, [⟨1, 1⟩]⟩] := R.times2 _ (by decide) (by decide) rfl AD1 AD2 (hAD.zero.bl (by repeat first | assumption | exact Bl.refl _ | refine Bl.alloc ?_ _ | refine Bl.trans ?_ (by assumption))) rfl AE1 AE2 (hAE.zero.bl (by repeat first | assumption | exact Bl.refl _ | refine Bl.alloc ?_ _ | refine Bl.trans ?_ (by assumption)))
  go_wp2_with fail
  refine (check08 _ 2 2 8 [⟨1, [⟨3, 5⟩]⟩, ⟨0, [⟨1, 1⟩]⟩] _ rfl (by decide) (by decide) hAF).mono ?_
  rintro e w27 ⟨rfl, hb27⟩
  go_wp2_with fail
  refine (of08 1 none 0 0 0 0 [] [] _ rfl rfl (by omega) rfl rfl R.nil).mono ?_
  rintro e w28 ⟨AG, AGd, rfl, AG1, AG2, hAG, hb28⟩
  have hAH : R cTimes 0 (w28.alloc (.cells #[.int .u8 1, .slice AG 0 AGd] 73)) (some ⟨w28.heap.size, 0, none⟩) [⟨1, []⟩] := R.times1 _ (by decide) rfl AG1 AG2 (hAG.zero.bl (by repeat first | assumption | exact Bl.refl _ | refine Bl.alloc ?_ _ | refine Bl.trans ?_ (by assumption)))
  go_wp2_with fail
  refine (check08 _ 1 1 8 [⟨1, []⟩] _ rfl (by decide) (by decide) hAH).mono ?_
  rintro e w29 ⟨rfl, hb29⟩
  go_wp2_with fail
  refine (of08 8 (some ⟨w29.heap.size, 0, none⟩) 2 1 1 2 [⟨1, 1⟩] [1, 1] _ rfl rfl (by omega) rfl rfl (R.lit [1, 1] (u32ok_all (by decide)) w29 _)).mono ?_
  rintro e w30 ⟨AI, AId, rfl, AI1, AI2, hAI, hb30⟩
  have hAJ : R cTimes 0 (w30.alloc (.cells #[.int .u8 8, .slice AI 1 AId] 73)) (some ⟨w30.heap.size, 0, none⟩) [⟨8, [⟨1, 1⟩]⟩] := R.times1 _ (by decide) rfl AI1 AI2 (hAI.zero.bl (by repeat first | assumption | exact Bl.refl _ | refine Bl.alloc ?_ _ | refine Bl.trans ?_ (by assumption)))
  go_wp2_with fail
  refine (check08 _ 1 1 8 [⟨8, [⟨1, 1⟩]⟩] _ rfl (by decide) (by decide) hAJ).mono ?_
  rintro e w31 ⟨rfl, hb31⟩
  go_wp2_with fail
  go_ret
  exact ⟨rfl, (by repeat first | assumption | exact Bl.refl _ | refine Bl.alloc ?_ _ | refine Bl.trans ?_ (by assumption))⟩
end Go.Proofs.Ytiimpmdnkjhcoaa

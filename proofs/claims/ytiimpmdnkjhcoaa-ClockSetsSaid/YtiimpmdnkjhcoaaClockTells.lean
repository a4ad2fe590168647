/-
  The walk of ClockTells, and of law 8's inner function spoil.
-/
import Derived.Test.YtiimpmdnkjhcoaaRefClk2
import Derived.Test.YtiimpmdnkjhcoaaSpoil07
namespace Go.Proofs.Ytiimpmdnkjhcoaa
open Go.RowKit

theorem R.timesF {lo : Nat} {w : World} {b off k : Nat} {l : List Times} {x : Times} (h : R cTimes lo w (some ⟨b, off, none⟩) l) (hk : l[k]? = some x) :
    ∃ A c, R cSpan lo w A x.s ∧ x.s.length ≤ c ∧ c ≤ maxLen ∧ w.cell? ⟨b, off + k * 2 + 1, none⟩ = some (.slice A x.s.length c) := by
  obtain ⟨h1, m, ⟨ho, A, c, a1, a2, rfl, hr⟩, ha⟩ := R.get h hk
  exact ⟨A, c, hr, a1, a2, (ha 1 _ rfl).1⟩

set_option maxRecDepth 100000 in
set_option maxHeartbeats 2000000 in
theorem lawSpoil08 (base : Nat) (A : Option Addr) (c : Nat) (l : List Times) (w0 w : World) (hs0 : SmI w0 w) (hl : l.length ≤ 1099511627776) (hA : R cTimes base w0 A l) :
    Calls Try.prog 33 #[.slice A l.length c] w fun e w' => (∃ v, e = .returned v) ∧ Below base w w' ∧ SmI w0 w' := by
  go_enter Try.func33, Try.ntmps33
  go_wp2
  go_loopw [2] (fun i wr => SmI w0 wr ∧ Below base w wr ∧ ∃ k : Nat, k ≤ l.length ∧ i = .int .i64 k) (fun i _ => l.length - (intOf i).toNat)
  case atStart => exact ⟨hs0, Below.refl _ _, 0, Nat.zero_le _, rfl⟩
  case round =>
    obtain ⟨hs, hbe, k, hk, rfl⟩ := hrel
    by_cases hlt : k < l.length
    · obtain ⟨b, off, rfl, _, hb⟩ := hA.addr (by omega)
      obtain ⟨x, hx⟩ := get_lt hlt
      obtain ⟨B, d, hB, hcd, hdm, s0⟩ := hA.timesF hx
      have hki : (k : Int) < (l.length : Int) := by omega
      have hd63 : x.s.length ≤ 9223372036854775807 := by unfold maxLen at hdm; omega
      clear hx
      go_wp2
      go_loopw [3] (fun i wq => SmI w0 wq ∧ Below base w wq ∧ ∃ j : Nat, j ≤ x.s.length ∧ i = .int .i64 j) (fun i _ => x.s.length - (intOf i).toNat)
      case atStart => exact ⟨hs, hbe, 0, Nat.zero_le _, rfl⟩
      case round =>
        clear hs hbe
        obtain ⟨hs, hbe, j, hj, rfl⟩ := hrel
        have s1 := hs.slice s0
        have hbl := World.block_lt_of_cell? _ _ s1
        by_cases hjt : j < x.s.length
        · obtain ⟨b2, off2, rfl, hb20, hb2⟩ := hB.addr (by omega)
          obtain ⟨r, hr⟩ := get_lt hjt
          obtain ⟨hbb2, r0, rf0⟩ := hB.spanF hr
          obtain ⟨⟨a1, q1⟩, qf⟩ := hs.int r0 rf0
          have hji : (j : Int) < (x.s.length : Int) := by omega
          have hfin := hide (And.intro (hs.set (c := 7777777) q1) (Below.setCell hbe (p := ⟨b2, off2 + j * 2 + 1, none⟩) hbb2 (.int .u32 7777777)))
          clear hr r0 rf0
          go_wp2
          go_roundw
          case rel => exact ⟨hfin.out.1, hfin.out.2, j + 1, by omega, by go_num⟩
          case measure => simp [intOf]; omega
        · have hji : ¬ (j : Int) < (x.s.length : Int) := by omega
          go_wp2
          go_roundw
          case rel => exact ⟨hs, hbe, k + 1, by omega, by go_num⟩
          case measure => simp [intOf]; omega
    · have hkl : l.length ≤ k := by omega
      go_wp2
      go_end0
      exact ⟨⟨_, rfl⟩, hbe, hs⟩

theorem sameSelf08 (l : List Times) {A B : Option Addr} {c d : Nat} {w : World} (hl : l.length ≤ maxLen) (hA : R cTimes 0 w A l) (hB : R cTimes 0 w B l) :
    Calls Try.prog 32 #[.slice A l.length c, .slice B l.length d] w fun e w' => e = .returned (.bool true) ∧ Bl w w' := by
  have h := refSame08 A B c d l l w hl hl hA hB
  rw [show same l l = true by unfold same; simp] at h
  exact h

theorem rcL_len (f : List Span → List Span → List Span) (a b : List Times) : (rcL f a b).length ≤ 8 := by
  unfold rcL
  split
  · split
    · exact eachL_len _ 8
    · exact Nat.zero_le _
  · exact Nat.zero_le _

theorem few.small {l : List Times} (h : few l) : smallC l := ⟨by have := h.1; omega, fun x hx => by have := h.2 x hx; omega⟩

set_option maxRecDepth 100000 in
set_option maxHeartbeats 8000000 in
theorem lawClockTells08 (A B : Option Addr) (c d : Nat) (a b : List Times) (x : Id) (w : World) (hla : a.length ≤ 140737488355328) (hlb : b.length ≤ 140737488355328) (hsa : ∀ y ∈ a, y.s.length ≤ 140737488355328) (hsb : ∀ y ∈ b, y.s.length ≤ 140737488355328)
    (hx : x.ok) (hA : R cTimes 0 w A a) (hB : R cTimes 0 w B b) :
    Calls Try.prog 6 #[.slice A a.length c, .slice B b.length d, .agg #[.int .u32 x.t, .int .u8 x.r]] w fun e w' => e = .returned (.bool true) ∧ Bl w w' := by
  have ham : a.length ≤ maxLen := by unfold maxLen; omega
  have hbm : b.length ≤ maxLen := by unfold maxLen; omega
  have hga := hide fun V (hv : Bl w V) => refGreat08 A c a V hla hsa (hA.bl hv)
  have hgb := hide fun V (hv : Bl w V) => refGreat08 B d b V hlb hsb (hB.bl hv)
  have radd := fun V (hv : Bl w V) => refAdd08 A c a x V ham hx (hA.bl hv)
  have rjoin := fun V (hv : Bl w V) => refJoin08 A B c d a b V ham hbm (hA.bl hv) (hB.bl hv)
  have rless := fun V (hv : Bl w V) => refLess08 A B c d a b V ham hbm (hA.bl hv) (hB.bl hv)
  have padd := fun X k V (hX : R cTimes 0 V X a) => clockAdd X k a x V hla hx hX
  have pjoin := fun X Y k m V (hX : R cTimes 0 V X a) (hY : R cTimes 0 V Y b) => clockJoin X Y k m a b V hla hlb hX hY
  have pless := fun X Y k m V (hX : R cTimes 0 V X a) (hY : R cTimes 0 V Y b) => clockLess X Y k m a b V hla hlb hX hY
  simp only [(cjoin_eq a (oneT x)).1, (cjoin_eq a (oneT x)).2] at padd
  simp only [(cjoin_eq a b).1, (cjoin_eq a b).2] at pjoin
  simp only [(cless_eq a b).1, (cless_eq a b).2] at pless
  have l1 := rcL_len bothF a (oneT x)
  have l2 := rcL_len bothF a b
  have l3 := rcL_len leftF a b
  generalize rcL bothF a (oneT x) = L1 at *
  generalize rcN bothF a (oneT x) = N1 at *
  generalize rcL bothF a b = L2 at *
  generalize rcN bothF a b = N2 at *
  generalize rcL leftF a b = L3 at *
  generalize rcN leftF a b = N3 at *
  replace radd := hide radd
  replace rjoin := hide rjoin
  replace rless := hide rless
  replace padd := hide padd
  replace pjoin := hide pjoin
  replace pless := hide pless
  obtain ⟨W, hW⟩ : ∃ W, W = w.alloc (.cells #[Value.int IntKind.u32 x.t, Value.int IntKind.u8 x.r] 39) := ⟨_, rfl⟩
  have hbW : Bl w W := by rw [hW]; exact (Bl.refl _).alloc _
  have at0 : IdBox W w.heap.size x := by rw [hW]; exact IdBox.new w x _
  go_enter Try.func6, Try.ntmps6
  go_wp2_with fail
  rw [← hW]
  clear hW
  refine (hga.out _ hbW).mono ?_
  rintro e w1 ⟨q1, rfl, hfa, hb1⟩
  have hb01 := hbW.trans hb1
  cases q1
  rotate_left
  · clear hfa
    go_wp2_with fail
    go_ret
    exact ⟨rfl, hb01⟩
  replace hfa := hide (few.small (hfa rfl))
  go_wp2_with fail
  refine (hgb.out _ hb01).mono ?_
  rintro e w2 ⟨q2, rfl, hfb, hb2⟩
  have hb02 := hb01.trans hb2
  cases q2
  rotate_left
  · clear hfb
    go_wp2_with fail
    go_ret
    exact ⟨rfl, hb02⟩
  replace hfb := hide (few.small (hfb rfl))
  go_wp2_with fail
  refine (refTwin08 A c a _ hfa.out (hA.bl hb02)).mono ?_
  rintro e w3 ⟨X, k, rfl, x1, x2, hX, hb3⟩
  have hb03 := hb02.trans hb3
  go_wp2_with fail
  refine (refTwin08 B d b _ hfb.out (hB.bl hb03)).mono ?_
  rintro e w4 ⟨Y, m, rfl, y1, y2, hY, hb4⟩
  have hb04 := hb03.trans hb4
  obtain ⟨X0, X1, -, -⟩ := at0.bl ((hb1.trans hb2).trans (hb3.trans hb4))
  go_wp2_with fail
  refine (padd.out X k _ (hX.zero.bl hb4)).mono ?_
  rintro e w5 ⟨P1, p1, rfl, p11, p12, hP1, hb5⟩
  have hb05 := hb04.trans hb5
  clear X0 X1
  obtain ⟨X0, X1, -, -⟩ := at0.bl (((hb1.trans hb2).trans (hb3.trans hb4)).trans hb5)
  go_wp2_with fail
  refine (radd.out _ hb05).mono ?_
  rintro e w6 ⟨Q1, q1, rfl, q11, q12, hQ1, hb6⟩
  have hb06 := hb05.trans hb6
  clear X0 X1
  have hb46 := hb5.trans hb6
  go_wp2_with fail
  refine (pjoin.out X Y k m _ (hX.zero.bl (hb4.trans hb46)) (hY.zero.bl hb46)).mono ?_
  rintro e w7 ⟨P2, p2, rfl, p21, p22, hP2, hb7⟩
  have hb07 := hb06.trans hb7
  go_wp2_with fail
  refine (rjoin.out _ hb07).mono ?_
  rintro e w8 ⟨Q2, q2, rfl, q21, q22, hQ2, hb8⟩
  have hb08 := hb07.trans hb8
  have hb48 := hb46.trans (hb7.trans hb8)
  go_wp2_with fail
  refine (pless.out X Y k m _ (hX.zero.bl (hb4.trans hb48)) (hY.zero.bl hb48)).mono ?_
  rintro e w9 ⟨P3, p3, rfl, p31, p32, hP3, hb9⟩
  have hb09 := hb08.trans hb9
  go_wp2_with fail
  refine (rless.out _ hb09).mono ?_
  rintro e w10 ⟨Q3, q3, rfl, q31, q32, hQ3, hb10⟩
  have hb010 := hb09.trans hb10
  have hb810 := hb9.trans hb10
  have hb610 := (hb7.trans hb8).trans hb810
  go_wp2_with fail
  refine (sameSelf08 L1 (Nat.le_trans p11 p12) (hP1.zero.bl (hb6.trans hb610)) (hQ1.zero.bl hb610)).mono ?_
  rintro e w11 ⟨rfl, hb11⟩
  have e1 : (N1 == N1) = true := beq_self_eq_true _
  have e2 : (N2 == N2) = true := beq_self_eq_true _
  have e3 : (N3 == N3) = true := beq_self_eq_true _
  go_wp2_with fail
  refine (sameSelf08 L2 (Nat.le_trans p21 p22) (hP2.zero.bl (hb8.trans (hb810.trans hb11))) (hQ2.zero.bl (hb810.trans hb11))).mono ?_
  rintro e w12 ⟨rfl, hb12⟩
  have hb1012 := hb11.trans hb12
  go_wp2_with fail
  refine (sameSelf08 L3 (Nat.le_trans p31 p32) (hP3.zero.bl (hb10.trans hb1012)) (hQ3.zero.bl hb1012)).mono ?_
  rintro e w13 ⟨rfl, hb13⟩
  have hb1013 := hb1012.trans hb13
  have hb413 := (hb48.trans hb810).trans hb1013
  have s1 : R cTimes w4.heap.size w13 P1 L1 := hP1.bl ((hb6.trans hb610).trans hb1013)
  have s2 : R cTimes w4.heap.size w13 P2 L2 := (hP2.more hb46.size).bl ((hb8.trans hb810).trans hb1013)
  have s3 : R cTimes w4.heap.size w13 P3 L3 := (hP3.more hb48.size).bl (hb10.trans hb1013)
  have hb013 := hb010.trans hb1013
  go_wp2_with fail
  refine (lawSpoil08 w4.heap.size P1 p1 L1 w13 _ (SmI.refl _) (by omega) s1).mono ?_
  rintro e w14 ⟨⟨v1, rfl⟩, hB14, hS14⟩
  go_wp2_with fail
  refine (lawSpoil08 w4.heap.size P2 p2 L2 w13 _ hS14 (by omega) s2).mono ?_
  rintro e w15 ⟨⟨v2, rfl⟩, hB15, hS15⟩
  go_wp2_with fail
  refine (lawSpoil08 w4.heap.size P3 p3 L3 w13 _ hS15 (by omega) s3).mono ?_
  rintro e w16 ⟨⟨v3, rfl⟩, hB16, -⟩
  have hb416 : Bl w4 w16 := hb413.step (hB14.trans (hB15.trans hB16))
  go_wp2_with fail
  refine (sameSelf08 a ham (hX.zero.bl (hb4.trans hb416)) (hA.bl (hb04.trans hb416))).mono ?_
  rintro e w17 ⟨rfl, hb17⟩
  go_wp2_with fail
  refine (sameSelf08 b hbm (hY.zero.bl (hb416.trans hb17)) (hB.bl ((hb04.trans hb416).trans hb17))).mono ?_
  rintro e w18 ⟨rfl, hb18⟩
  go_wp2_with fail
  go_ret
  exact ⟨rfl, (hb04.trans hb416).trans (hb17.trans hb18)⟩
end Go.Proofs.Ytiimpmdnkjhcoaa

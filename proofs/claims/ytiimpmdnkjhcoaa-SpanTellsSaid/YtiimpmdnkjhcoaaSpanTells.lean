/-
  The walk of SpanTells.
-/
import Derived.Test.YtiimpmdnkjhcoaaRefSet3
import Derived.Test.YtiimpmdnkjhcoaaSpoil07
namespace Go.Proofs.Ytiimpmdnkjhcoaa
open Go.RowKit

theorem same_self (l : List Span) : same l l = true := by unfold same; simp

theorem sameSelf07 (l : List Span) {A B : Option Addr} {c d : Nat} {w : World} (hl : l.length ≤ maxLen) (hA : R cSpan 0 w A l) (hB : R cSpan 0 w B l) :
    Calls Try.prog 23 #[.slice A l.length c, .slice B l.length d] w fun e w' => e = .returned (.bool true) ∧ Bl w w' := by
  have h := refSame07 A B c d l l w hl hl hA hB
  rw [same_self] at h
  exact h

set_option maxRecDepth 100000 in
set_option maxHeartbeats 8000000 in
theorem lawSpanTells07 (A B : Option Addr) (c d : Nat) (a b : List Span) (z : Span) (w : World) (hla : a.length ≤ 140737488355328) (hlb : b.length ≤ 140737488355328) (hz : z.ok) (hA : R cSpan 0 w A a) (hB : R cSpan 0 w B b) :
    Calls Try.prog 8 #[.slice A a.length c, .slice B b.length d, .int .u32 z.f, .int .u32 z.t] w fun e w' => e = .returned (.bool true) ∧ Bl w w' := by
  by_cases h1 : (2000 : Int) < (a.length : Int)
  · go_enter Try.func8, Try.ntmps8
    go_wp2
    go_ret
    exact ⟨rfl, Bl.refl _⟩
  by_cases h2 : (2000 : Int) < (b.length : Int)
  · go_enter Try.func8, Try.ntmps8
    go_wp2
    go_ret
    exact ⟨rfl, Bl.refl _⟩
  have ha : a.length ≤ 2000 := by omega
  have hb : b.length ≤ 2000 := by omega
  have ham : a.length ≤ maxLen := by unfold maxLen; omega
  have hbm : b.length ≤ maxLen := by unfold maxLen; omega
  have told_le : ∀ l : List Span, (toldL l).length ≤ 1024 := fun l => by
    unfold toldL
    split
    · exact Nat.zero_le _
    · omega
  have l1 : (rAddL7 a z).length ≤ 1099511627776 := by
    unfold rAddL7
    split
    · split
      · have := told_le (withF a z); omega
      · exact Nat.zero_le _
    · exact Nat.zero_le _
  have l2 : (rJoinL a b).length ≤ 1099511627776 := by
    unfold rJoinL
    split
    · have := told_le (bothF a b); omega
    · exact Nat.zero_le _
  have l3 : (rLessL7 a b).length ≤ 1099511627776 := by
    unfold rLessL7
    split
    · have := told_le (leftF a b); omega
    · exact Nat.zero_le _
  have radd := fun V (hv : Bl w V) => refAdd07 A c a z V ham hz (hA.bl hv)
  have rjoin := fun V (hv : Bl w V) => refJoin07 A B c d a b V ham hbm (hA.bl hv) (hB.bl hv)
  have rless := fun V (hv : Bl w V) => refLess07 A B c d a b V ham hbm (hA.bl hv) (hB.bl hv)
  have padd := fun X x V (hX : R cSpan 0 V X a) => spanAdd X x a z V ham hz hX
  have pjoin := fun X Y x y V (hX : R cSpan 0 V X a) (hY : R cSpan 0 V Y b) => spanJoin X Y x y a b V ham hbm hX hY
  have pless := fun X Y x y V (hX : R cSpan 0 V X a) (hY : R cSpan 0 V Y b) => spanLess X Y x y a b V ham hbm hX hY
  simp only [(add_eq7 a z).1, (add_eq7 a z).2] at padd
  simp only [(join_eq a b).1, (join_eq a b).2] at pjoin
  simp only [(less_eq7 a b).1, (less_eq7 a b).2] at pless
  generalize rAddL7 a z = L1 at *
  generalize rAddN7 a z = N1 at *
  generalize rJoinL a b = L2 at *
  generalize rJoinN a b = N2 at *
  generalize rLessL7 a b = L3 at *
  generalize rLessN7 a b = N3 at *
  replace radd := hide radd
  replace rjoin := hide rjoin
  replace rless := hide rless
  replace padd := hide padd
  replace pjoin := hide pjoin
  replace pless := hide pless
  clear told_le
  go_enter Try.func8, Try.ntmps8
  go_wp2_with fail
  refine (refTwin07 A c a _ (by omega) hA).mono ?_
  rintro e w1 ⟨X, x, rfl, x1, x2, hX, hb1⟩
  go_wp2_with fail
  refine (refTwin07 B d b _ (by omega) (hB.bl hb1)).mono ?_
  rintro e w2 ⟨Y, y, rfl, y1, y2, hY, hb2⟩
  have hb02 := hb1.trans hb2
  go_wp2_with fail
  refine (spanTwin X x a _ (by omega) (hX.zero.bl hb2)).mono ?_
  rintro e w3 ⟨T, t, rfl, t1, t2, hT, hb3⟩
  have hb03 := hb02.trans hb3
  go_wp2_with fail
  refine (padd.out X x _ (hX.zero.bl (hb2.trans hb3))).mono ?_
  rintro e w4 ⟨P1, p1, rfl, p11, p12, hP1, hb4⟩
  have hb04 := hb03.trans hb4
  go_wp2_with fail
  refine (radd.out _ hb04).mono ?_
  rintro e w5 ⟨Q1, q1, rfl, q11, q12, hQ1, hb5⟩
  have hb05 := hb04.trans hb5
  have hb25 := hb3.trans (hb4.trans hb5)
  go_wp2_with fail
  refine (pjoin.out X Y x y _ (hX.zero.bl (hb2.trans hb25)) (hY.zero.bl hb25)).mono ?_
  rintro e w6 ⟨P2, p2, rfl, p21, p22, hP2, hb6⟩
  have hb06 := hb05.trans hb6
  go_wp2_with fail
  refine (rjoin.out _ hb06).mono ?_
  rintro e w7 ⟨Q2, q2, rfl, q21, q22, hQ2, hb7⟩
  have hb07 := hb06.trans hb7
  have hb27 := hb25.trans (hb6.trans hb7)
  go_wp2_with fail
  refine (pless.out X Y x y _ (hX.zero.bl (hb2.trans hb27)) (hY.zero.bl hb27)).mono ?_
  rintro e w8 ⟨P3, p3, rfl, p31, p32, hP3, hb8⟩
  have hb08 := hb07.trans hb8
  go_wp2_with fail
  refine (rless.out _ hb08).mono ?_
  rintro e w9 ⟨Q3, q3, rfl, q31, q32, hQ3, hb9⟩
  have hb09 := hb08.trans hb9
  have hb89 := hb8.trans hb9
  have hb69 := (hb6.trans hb7).trans hb89
  go_wp2_with fail
  refine (sameSelf07 L1 (Nat.le_trans p11 p12) (hP1.zero.bl (hb5.trans hb69)) (hQ1.zero.bl hb69)).mono ?_
  rintro e w10 ⟨rfl, hb10⟩
  have e1 : (N1 == N1) = true := beq_self_eq_true _
  have e2 : (N2 == N2) = true := beq_self_eq_true _
  have e3 : (N3 == N3) = true := beq_self_eq_true _
  go_wp2_with fail
  refine (sameSelf07 L2 (Nat.le_trans p21 p22) (hP2.zero.bl (hb7.trans (hb89.trans hb10))) (hQ2.zero.bl (hb89.trans hb10))).mono ?_
  rintro e w11 ⟨rfl, hb11⟩
  have hb911 := hb10.trans hb11
  go_wp2_with fail
  refine (sameSelf07 L3 (Nat.le_trans p31 p32) (hP3.zero.bl (hb9.trans hb911)) (hQ3.zero.bl hb911)).mono ?_
  rintro e w12 ⟨rfl, hb12⟩
  have hb912 := hb911.trans hb12
  have hb012 := hb09.trans hb912
  have hb212 := (hb27.trans hb89).trans hb912
  have hX12 := hX.bl (hb2.trans hb212)
  have hY12 := hY.bl hb212
  go_wp2_with fail
  refine (spanCheck X x a _ ham hX12.zero).mono ?_
  rintro e w13 ⟨rfl, hb13⟩
  go_wp2_with fail
  refine (refCheck07 A c a _ ham (hA.bl (hb012.trans hb13))).mono ?_
  rintro e w14 ⟨rfl, hb14⟩
  have hb1214 := hb13.trans hb14
  have e4 : (okOr 8 (spansMay a) == okOr 8 (spansMay a)) = true := beq_self_eq_true _
  go_wp2_with fail
  refine (spanHas X x a z.f _ ham (hX12.zero.bl hb1214)).mono ?_
  rintro e w15 ⟨rfl, hb15⟩
  have hb1215 := hb1214.trans hb15
  go_wp2_with fail
  refine (refHas07 A c a z.f _ ham (hA.bl (hb012.trans hb1215))).mono ?_
  rintro e w16 ⟨rfl, hb16⟩
  have hb1216 := hb1215.trans hb16
  have e5 : (spanHasB a z.f == spanHasB a z.f) = true := beq_self_eq_true _
  go_wp2_with fail
  refine (spanCount X x a _ ham (hX12.zero.bl hb1216)).mono ?_
  rintro e w17 ⟨rfl, hb17⟩
  have hb1217 := hb1216.trans hb17
  go_wp2_with fail
  refine (refCount07 A c a _ ham (hA.bl (hb012.trans hb1217))).mono ?_
  rintro e w18 ⟨rfl, hb18⟩
  have hb1218 := hb1217.trans hb18
  have e6 : (spansCount a == spansCount a) = true := beq_self_eq_true _
  go_wp2_with fail
  refine (spanSame X Y x y a b _ ham hbm (hX12.zero.bl hb1218) (hY12.zero.bl hb1218)).mono ?_
  rintro e w19 ⟨rfl, hb19⟩
  have hb1219 := hb1218.trans hb19
  go_wp2_with fail
  refine (refSame07 A B c d a b _ ham hbm (hA.bl (hb012.trans hb1219)) (hB.bl (hb012.trans hb1219))).mono ?_
  rintro e w20 ⟨rfl, hb20⟩
  have hb1220 := hb1219.trans hb20
  have e7 : (same a b == same a b) = true := beq_self_eq_true _
  go_wp2_with fail
  have hss := spanSame X A x c a a w20 ham ham (hX12.zero.bl hb1220) (hA.bl (hb012.trans hb1220))
  rw [same_self] at hss
  refine hss.mono ?_
  rintro e w21 ⟨rfl, hb21⟩
  have hb1221 := hb1220.trans hb21
  go_wp2_with fail
  refine (sameSelf07 a ham ((hT.zero.bl (((hb4.trans hb5).trans hb69).trans hb912)).bl hb1221) (hA.bl (hb012.trans hb1221))).mono ?_
  rintro e w22 ⟨rfl, hb22⟩
  have hb1222 := hb1221.trans hb22
  have hb222 := hb212.trans hb1222
  have s1 : R cSpan w2.heap.size w22 P1 L1 := (hP1.more hb3.size).bl (((hb5.trans hb69).trans hb912).trans hb1222)
  have s2 : R cSpan w2.heap.size w22 P2 L2 := (hP2.more hb25.size).bl (((hb7.trans hb89).trans hb912).trans hb1222)
  have s3 : R cSpan w2.heap.size w22 P3 L3 := (hP3.more hb27.size).bl ((hb9.trans hb912).trans hb1222)
  have s4 : R cSpan w2.heap.size w22 T a := hT.bl ((((hb4.trans hb5).trans hb69).trans hb912).trans hb1222)
  have hb022 := hb012.trans hb1222
  clear e4 e5 e6 e7 hss
  go_wp2_with fail
  refine (lawSpoil07 w2.heap.size P1 p1 L1 w22 _ (SmI.refl _) l1 s1).mono ?_
  rintro e w23 ⟨⟨v1, rfl⟩, hB23, hS23⟩
  go_wp2_with fail
  refine (lawSpoil07 w2.heap.size P2 p2 L2 w22 _ hS23 l2 s2).mono ?_
  rintro e w24 ⟨⟨v2, rfl⟩, hB24, hS24⟩
  go_wp2_with fail
  refine (lawSpoil07 w2.heap.size P3 p3 L3 w22 _ hS24 l3 s3).mono ?_
  rintro e w25 ⟨⟨v3, rfl⟩, hB25, hS25⟩
  go_wp2_with fail
  refine (lawSpoil07 w2.heap.size T t a w22 _ hS25 (by omega) s4).mono ?_
  rintro e w26 ⟨⟨v4, rfl⟩, hB26, -⟩
  have hb226 : Bl w2 w26 := hb222.step (hB23.trans (hB24.trans (hB25.trans hB26)))
  go_wp2_with fail
  refine (sameSelf07 a ham (hX.zero.bl (hb2.trans hb226)) (hA.bl (hb02.trans hb226))).mono ?_
  rintro e w27 ⟨rfl, hb27'⟩
  go_wp2_with fail
  refine (sameSelf07 b hbm (hY.zero.bl (hb226.trans hb27')) (hB.bl ((hb02.trans hb226).trans hb27'))).mono ?_
  rintro e w28 ⟨rfl, hb28⟩
  go_wp2_with fail
  go_ret
  exact ⟨rfl, (hb02.trans hb226).trans (hb27'.trans hb28)⟩
end Go.Proofs.Ytiimpmdnkjhcoaa

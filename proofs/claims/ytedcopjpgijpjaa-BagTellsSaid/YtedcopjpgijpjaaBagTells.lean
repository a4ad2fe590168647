/-
  The walk of BagTells.
-/
import Derived.Test.YtedcopjpgijpjaaRefB
import Derived.Test.YtedcopjpgijpjaaSpoil11
namespace Go.Proofs.Ytedcopjpgijpjaa
open Go.RowKit

theorem sameSelf11 (l : List Op) {A B : Option Addr} {c d : Nat} {w : World} (hl : l.length ≤ maxLen) (hA : R cOp 0 w A l) (hB : R cOp 0 w B l) :
    Calls Try.prog 26 #[.slice A l.length c, .slice B l.length d] w fun e w' => e = .returned (.bool true) ∧ Bl w w' := by
  have h := refSame11 A B c d l l w hl hl hA hB
  rw [show same l l = true by unfold same; simp] at h
  exact h

set_option maxRecDepth 100000 in
set_option maxHeartbeats 8000000 in
theorem lawBagTells11 (A B S C : Option Addr) (c d sc k : Nat) (a b : List Op) (o : Op) (m : List Times) (w : World) (hla : a.length ≤ 140737488355328) (hlb0 : b.length ≤ 140737488355328) (hac : a.length ≤ c) (hcm : c ≤ maxLen) (hm : m.length ≤ 140737488355328) (hq : ∀ x ∈ m, x.s.length ≤ 140737488355328)
    (hqa : ∀ x ∈ a, x.pl.length ≤ 8796093022208) (hA : R cOp 0 w A a) (hB : R cOp 0 w B b) (ho : OpIn w o S sc) (hC : R cTimes 0 w C m) :
    Calls Try.prog 5 #[.slice A a.length c, .slice B b.length d, .agg #[.int .u8 o.kind, .int .u32 o.id.t, .int .u8 o.id.r, .slice S o.pl.length sc, .int .i64 o.pt], .slice C m.length k] w fun e w' => e = .returned (.bool true) ∧ Bl w w' := by
  have hlm : a.length ≤ maxLen := by unfold maxLen; omega
  have hlb' : b.length ≤ maxLen := by unfold maxLen; omega
  have hmx : m.length ≤ maxLen := by unfold maxLen; omega
  have hga := hide (fun W (hb : Bl w W) => refGreat10 A c a 100 W hla (hA.bl hb))
  have hgb := hide (fun W (hb : Bl w W) => refGreat10 B d b 100 W hlb0 (hB.bl hb))
  have hgc := hide (fun W (hb : Bl w W) => refGreat08 C k m W hm hq (hC.bl hb))
  obtain ⟨W, hW⟩ : ∃ W, W = w.alloc (.cells #[Value.int IntKind.u8 o.kind, Value.int IntKind.u32 o.id.t, Value.int IntKind.u8 o.id.r, Value.slice S o.pl.length sc, Value.int IntKind.i64 o.pt] 33) := ⟨_, rfl⟩
  have hbW : Bl w W := by rw [hW]; exact (Bl.refl _).alloc _
  have at0 : OpBox W w.heap.size o S sc := by rw [hW]; exact OpBox.new w o S sc _
  replace hq := hide hq
  go_enter Try.func5, Try.ntmps5
  go_wp2_with fail
  rw [← hW]
  clear hW
  refine (hga.out _ hbW).mono ?_
  rintro e w2 ⟨ba, rfl, hfa, hb2⟩
  have hbw2 := hbW.trans hb2
  have hbW2 := hb2
  cases ba
  · replace hfa := hide (hfa rfl)
    have hn1 : a.length ≤ 100 := by have := hfa.out.1; omega
    have hca : Hid (copyB a) := hide ⟨by omega, hqa⟩
    replace hqa := hide hqa
    have hn2 : ¬ (1100 : Int) < (a.length : Int) := by omega
    go_wp2_with fail
    refine (hgb.out _ hbw2).mono ?_
    rintro e w3 ⟨bb, rfl, hfb, hb3⟩
    have hbw3 := hbw2.trans hb3
    have hbW3 := hbW2.trans hb3
    cases bb
    rotate_left
    · clear hfb
      go_wp2_with fail
      go_ret
      exact ⟨rfl, hbw3⟩
    replace hfb := hide (hfb rfl)
    obtain ⟨x0, x1, x2, x3, x4⟩ := (at0.bl hbW3).cells
    have hxl := (at0.bl hbW3).lt
    by_cases ho1 : (100 : Int) < (o.pl.length : Int)
    · go_wp2_with fail
      go_ret
      exact ⟨rfl, hbw3⟩
    have hop : o.pl.length ≤ 100 := by omega
    go_wp2_with fail
    refine (hgc.out _ hbw3).mono ?_
    rintro e w4 ⟨bc, rfl, -, hb4⟩
    have hbw4 := hbw3.trans hb4
    have hbW4 := hbW3.trans hb4
    clear x0 x1 x2 x3 x4 hxl
    cases bc
    rotate_left
    · go_wp2_with fail
      go_ret
      exact ⟨rfl, hbw4⟩
    have hlb : b.length ≤ 100 := by have := hfb.out.1; omega
    have hcb : copyB b := ⟨by omega, fun x hx => by
      have := hfb.out.2 x (by rw [List.take_of_length_le (by omega)]; exact hx)
      omega⟩
    have l1 : (addL a o).length ≤ 1099511627776 := by
      rw [← (rAdd_eq a o).2]
      unfold rAddL
      split
      · have := withB_len a o; omega
      · simp
    have l2 : (joinL a b).length ≤ 1099511627776 := by
      unfold joinL joinM
      split
      · have := merge_len (a.length + b.length) a b; omega
      · simp
    have l3 : (lessL a m).length ≤ 1099511627776 := by
      unfold lessL
      split
      · have := List.length_filter_le (fun x => !clockHas m x.id) a; omega
      · simp
    have hadd := fun V (hb : Bl w V) => refAdd11 A S c sc a o V (by omega) hac hcm (hA.bl hb) (ho.bl hb)
    have hjoin := fun V (hb : Bl w V) => refJoin11 A B c d a b V (by omega) hac hcm (hA.bl hb) (hB.bl hb)
    have hless := fun V (hb : Bl w V) => refLess11 A C c k a m V (by omega) hmx (hA.bl hb) (hC.bl hb)
    have padd := fun X x V (hX : R cOp 0 V X a) (hb : Bl w V) => bagAdd X S x sc a o V hlm hX (ho.bl hb)
    have pjoin := fun X Y x y V (h1 : a.length ≤ x) (h2 : x ≤ maxLen) (h3 : b.length ≤ y) (h4 : y ≤ maxLen) (hX : R cOp 0 V X a) (hY : R cOp 0 V Y b) => bagJoin X Y x y a b V h1 h2 h3 h4 hX hY
    have pless := fun X x V (hX : R cOp 0 V X a) (hb : Bl w V) => bagLess X C x k a m V hlm hm hX (hC.bl hb)
    simp only [(rAdd_eq a o).1, (rAdd_eq a o).2] at hadd
    simp only [(rJoin_eq a b).1, (rJoin_eq a b).2] at hjoin
    simp only [rLess_eq a m] at hless
    generalize addL a o = L1 at l1 hadd padd
    generalize addN a o = N1 at hadd padd
    generalize joinL a b = L2 at l2 hjoin pjoin
    generalize joinN a b = N2 at hjoin pjoin
    generalize lessL a m = L3 at l3 hless pless
    generalize lessN a m = N3 at hless pless
    replace hadd := hide hadd
    replace hjoin := hide hjoin
    replace hless := hide hless
    replace padd := hide padd
    replace pjoin := hide pjoin
    replace pless := hide pless
    clear hga hgb hgc hfb
    go_wp2_with fail
    refine (refTwin11 A c a _ hca.out (hA.bl hbw4)).mono ?_
    rintro e w5 ⟨X, x, rfl, x1', x2', hX, hb5⟩
    have hbw5 := hbw4.trans hb5
    have hbW5 := hbW4.trans hb5
    go_wp2_with fail
    refine (refTwin11 B d b _ hcb (hB.bl hbw5)).mono ?_
    rintro e w6 ⟨Y, y, rfl, y1', y2', hY, hb6⟩
    have hbw6 := hbw5.trans hb6
    have hbW6 := hbW5.trans hb6
    obtain ⟨x0, x1, x2, x3, x4⟩ := (at0.bl hbW6).cells
    have hxl := (at0.bl hbW6).lt
    go_wp2_with fail
    refine (padd.out X x _ (hX.zero.bl hb6) hbw6).mono ?_
    rintro e w7 ⟨P1, p1, rfl, p11, p12, hP1, hb7⟩
    have hbw7 := hbw6.trans hb7
    have hbW7 := hbW6.trans hb7
    clear x0 x1 x2 x3 x4 hxl
    obtain ⟨x0, x1, x2, x3, x4⟩ := (at0.bl hbW7).cells
    have hxl := (at0.bl hbW7).lt
    go_wp2_with fail
    refine (hadd.out _ hbw7).mono ?_
    rintro e w8 ⟨Q1, q1, rfl, q11, q12, hQ1, hb8⟩
    have hbw8 := hbw7.trans hb8
    clear x0 x1 x2 x3 x4 hxl
    have hb68 := hb7.trans hb8
    go_wp2_with fail
    refine (pjoin.out X Y x y _ x1' x2' y1' y2' (hX.zero.bl (hb6.trans hb68)) (hY.zero.bl hb68)).mono ?_
    rintro e w9 ⟨P2, p2, rfl, p21, p22, hP2, hb9⟩
    have hbw9 := hbw8.trans hb9
    go_wp2_with fail
    refine (hjoin.out _ hbw9).mono ?_
    rintro e w10 ⟨Q2, q2, rfl, q21, q22, hQ2, hb10⟩
    have hbw10 := hbw9.trans hb10
    have hb610 := hb68.trans (hb9.trans hb10)
    go_wp2_with fail
    refine (pless.out X x _ (hX.zero.bl (hb6.trans hb610)) hbw10).mono ?_
    rintro e w11 ⟨P3, p3, rfl, p31, p32, hP3, hb11⟩
    have hbw11 := hbw10.trans hb11
    go_wp2_with fail
    refine (hless.out _ hbw11).mono ?_
    rintro e w12 ⟨Q3, q3, rfl, q31, q32, hQ3, hb12⟩
    have hbw12 := hbw11.trans hb12
    have hb1012 := hb11.trans hb12
    have hb812 := (hb9.trans hb10).trans hb1012
    go_wp2_with fail
    refine (sameSelf11 L1 (Nat.le_trans p11 p12) (hP1.zero.bl (hb8.trans hb812)) (hQ1.bl hb812)).mono ?_
    rintro e w13 ⟨rfl, hb13⟩
    have e1 : (N1 == N1) = true := beq_self_eq_true _
    go_wp2_with fail
    refine (sameSelf11 L2 (Nat.le_trans p21 p22) (hP2.zero.bl (hb10.trans (hb1012.trans hb13))) (hQ2.bl (hb1012.trans hb13))).mono ?_
    rintro e w14 ⟨rfl, hb14⟩
    go_wp2_with fail
    refine (sameSelf11 L3 (Nat.le_trans p31 p32) (hP3.zero.bl (hb12.trans (hb13.trans hb14))) (hQ3.bl (hb13.trans hb14))).mono ?_
    rintro e w15 ⟨rfl, hb15⟩
    have hb1215 := hb13.trans (hb14.trans hb15)
    have hb1015 := hb1012.trans hb1215
    have hb815 := hb812.trans hb1215
    have s1 : R cOp w6.heap.size w15 P1 L1 := (hP1.bl hb8).bl hb815
    have s2 : R cOp w6.heap.size w15 P2 L2 := ((hP2.more hb68.size).bl hb10).bl hb1015
    have s3 : R cOp w6.heap.size w15 P3 L3 := ((hP3.more hb610.size).bl hb12).bl hb1215
    have hb615 := hb610.trans hb1015
    have hbw15 := hbw12.trans hb1215
    go_wp2_with fail
    refine (lawSpoil11 w6.heap.size P1 p1 L1 w15 _ (Sm.refl _) l1 s1).mono ?_
    rintro e w16 ⟨⟨v1, rfl⟩, hB16, hS16⟩
    go_wp2_with fail
    refine (lawSpoil11 w6.heap.size P2 p2 L2 w15 _ hS16 l2 s2).mono ?_
    rintro e w17 ⟨⟨v2, rfl⟩, hB17, hS17⟩
    go_wp2_with fail
    refine (lawSpoil11 w6.heap.size P3 p3 L3 w15 _ hS17 l3 s3).mono ?_
    rintro e w18 ⟨⟨v3, rfl⟩, hB18, -⟩
    have hb618 : Bl w6 w18 := hb615.step (hB16.trans (hB17.trans hB18))
    go_wp2_with fail
    refine (sameSelf11 a hlm (hX.zero.bl (hb6.trans hb618)) (hA.bl (hbw6.trans hb618))).mono ?_
    rintro e w19 ⟨rfl, hb19⟩
    go_wp2_with fail
    refine (sameSelf11 b hlb' (hY.zero.bl (hb618.trans hb19)) (hB.bl ((hbw6.trans hb618).trans hb19))).mono ?_
    rintro e w20 ⟨rfl, hb20⟩
    go_wp2_with fail
    go_ret
    exact ⟨rfl, (hbw6.trans hb618).trans (hb19.trans hb20)⟩
  · clear hfa
    by_cases hn1 : (a.length : Int) ≤ 1024
    · go_wp2_with fail
      go_ret
      exact ⟨rfl, hbw2⟩
    by_cases hn2 : (1100 : Int) < (a.length : Int)
    · go_wp2_with fail
      go_ret
      exact ⟨rfl, hbw2⟩
    have hca : Hid (copyB a) := hide ⟨by omega, hqa⟩
    replace hqa := hide hqa
    go_wp2_with fail
    refine (hgb.out _ hbw2).mono ?_
    rintro e w3 ⟨bb, rfl, hfb, hb3⟩
    have hbw3 := hbw2.trans hb3
    have hbW3 := hbW2.trans hb3
    cases bb
    rotate_left
    · clear hfb
      go_wp2_with fail
      go_ret
      exact ⟨rfl, hbw3⟩
    replace hfb := hide (hfb rfl)
    obtain ⟨x0, x1, x2, x3, x4⟩ := (at0.bl hbW3).cells
    have hxl := (at0.bl hbW3).lt
    by_cases ho1 : (100 : Int) < (o.pl.length : Int)
    · go_wp2_with fail
      go_ret
      exact ⟨rfl, hbw3⟩
    have hop : o.pl.length ≤ 100 := by omega
    go_wp2_with fail
    refine (hgc.out _ hbw3).mono ?_
    rintro e w4 ⟨bc, rfl, -, hb4⟩
    have hbw4 := hbw3.trans hb4
    have hbW4 := hbW3.trans hb4
    clear x0 x1 x2 x3 x4 hxl
    cases bc
    rotate_left
    · go_wp2_with fail
      go_ret
      exact ⟨rfl, hbw4⟩
    have hlb : b.length ≤ 100 := by have := hfb.out.1; omega
    have hcb : copyB b := ⟨by omega, fun x hx => by
      have := hfb.out.2 x (by rw [List.take_of_length_le (by omega)]; exact hx)
      omega⟩
    have l1 : (addL a o).length ≤ 1099511627776 := by
      rw [← (rAdd_eq a o).2]
      unfold rAddL
      split
      · have := withB_len a o; omega
      · simp
    have l2 : (joinL a b).length ≤ 1099511627776 := by
      unfold joinL joinM
      split
      · have := merge_len (a.length + b.length) a b; omega
      · simp
    have l3 : (lessL a m).length ≤ 1099511627776 := by
      unfold lessL
      split
      · have := List.length_filter_le (fun x => !clockHas m x.id) a; omega
      · simp
    have hadd := fun V (hb : Bl w V) => refAdd11 A S c sc a o V (by omega) hac hcm (hA.bl hb) (ho.bl hb)
    have hjoin := fun V (hb : Bl w V) => refJoin11 A B c d a b V (by omega) hac hcm (hA.bl hb) (hB.bl hb)
    have hless := fun V (hb : Bl w V) => refLess11 A C c k a m V (by omega) hmx (hA.bl hb) (hC.bl hb)
    have padd := fun X x V (hX : R cOp 0 V X a) (hb : Bl w V) => bagAdd X S x sc a o V hlm hX (ho.bl hb)
    have pjoin := fun X Y x y V (h1 : a.length ≤ x) (h2 : x ≤ maxLen) (h3 : b.length ≤ y) (h4 : y ≤ maxLen) (hX : R cOp 0 V X a) (hY : R cOp 0 V Y b) => bagJoin X Y x y a b V h1 h2 h3 h4 hX hY
    have pless := fun X x V (hX : R cOp 0 V X a) (hb : Bl w V) => bagLess X C x k a m V hlm hm hX (hC.bl hb)
    simp only [(rAdd_eq a o).1, (rAdd_eq a o).2] at hadd
    simp only [(rJoin_eq a b).1, (rJoin_eq a b).2] at hjoin
    simp only [rLess_eq a m] at hless
    generalize addL a o = L1 at l1 hadd padd
    generalize addN a o = N1 at hadd padd
    generalize joinL a b = L2 at l2 hjoin pjoin
    generalize joinN a b = N2 at hjoin pjoin
    generalize lessL a m = L3 at l3 hless pless
    generalize lessN a m = N3 at hless pless
    replace hadd := hide hadd
    replace hjoin := hide hjoin
    replace hless := hide hless
    replace padd := hide padd
    replace pjoin := hide pjoin
    replace pless := hide pless
    clear hga hgb hgc hfb
    go_wp2_with fail
    refine (refTwin11 A c a _ hca.out (hA.bl hbw4)).mono ?_
    rintro e w5 ⟨X, x, rfl, x1', x2', hX, hb5⟩
    have hbw5 := hbw4.trans hb5
    have hbW5 := hbW4.trans hb5
    go_wp2_with fail
    refine (refTwin11 B d b _ hcb (hB.bl hbw5)).mono ?_
    rintro e w6 ⟨Y, y, rfl, y1', y2', hY, hb6⟩
    have hbw6 := hbw5.trans hb6
    have hbW6 := hbW5.trans hb6
    obtain ⟨x0, x1, x2, x3, x4⟩ := (at0.bl hbW6).cells
    have hxl := (at0.bl hbW6).lt
    go_wp2_with fail
    refine (padd.out X x _ (hX.zero.bl hb6) hbw6).mono ?_
    rintro e w7 ⟨P1, p1, rfl, p11, p12, hP1, hb7⟩
    have hbw7 := hbw6.trans hb7
    have hbW7 := hbW6.trans hb7
    clear x0 x1 x2 x3 x4 hxl
    obtain ⟨x0, x1, x2, x3, x4⟩ := (at0.bl hbW7).cells
    have hxl := (at0.bl hbW7).lt
    go_wp2_with fail
    refine (hadd.out _ hbw7).mono ?_
    rintro e w8 ⟨Q1, q1, rfl, q11, q12, hQ1, hb8⟩
    have hbw8 := hbw7.trans hb8
    clear x0 x1 x2 x3 x4 hxl
    have hb68 := hb7.trans hb8
    go_wp2_with fail
    refine (pjoin.out X Y x y _ x1' x2' y1' y2' (hX.zero.bl (hb6.trans hb68)) (hY.zero.bl hb68)).mono ?_
    rintro e w9 ⟨P2, p2, rfl, p21, p22, hP2, hb9⟩
    have hbw9 := hbw8.trans hb9
    go_wp2_with fail
    refine (hjoin.out _ hbw9).mono ?_
    rintro e w10 ⟨Q2, q2, rfl, q21, q22, hQ2, hb10⟩
    have hbw10 := hbw9.trans hb10
    have hb610 := hb68.trans (hb9.trans hb10)
    go_wp2_with fail
    refine (pless.out X x _ (hX.zero.bl (hb6.trans hb610)) hbw10).mono ?_
    rintro e w11 ⟨P3, p3, rfl, p31, p32, hP3, hb11⟩
    have hbw11 := hbw10.trans hb11
    go_wp2_with fail
    refine (hless.out _ hbw11).mono ?_
    rintro e w12 ⟨Q3, q3, rfl, q31, q32, hQ3, hb12⟩
    have hbw12 := hbw11.trans hb12
    have hb1012 := hb11.trans hb12
    have hb812 := (hb9.trans hb10).trans hb1012
    go_wp2_with fail
    refine (sameSelf11 L1 (Nat.le_trans p11 p12) (hP1.zero.bl (hb8.trans hb812)) (hQ1.bl hb812)).mono ?_
    rintro e w13 ⟨rfl, hb13⟩
    have e1 : (N1 == N1) = true := beq_self_eq_true _
    go_wp2_with fail
    refine (sameSelf11 L2 (Nat.le_trans p21 p22) (hP2.zero.bl (hb10.trans (hb1012.trans hb13))) (hQ2.bl (hb1012.trans hb13))).mono ?_
    rintro e w14 ⟨rfl, hb14⟩
    go_wp2_with fail
    refine (sameSelf11 L3 (Nat.le_trans p31 p32) (hP3.zero.bl (hb12.trans (hb13.trans hb14))) (hQ3.bl (hb13.trans hb14))).mono ?_
    rintro e w15 ⟨rfl, hb15⟩
    have hb1215 := hb13.trans (hb14.trans hb15)
    have hb1015 := hb1012.trans hb1215
    have hb815 := hb812.trans hb1215
    have s1 : R cOp w6.heap.size w15 P1 L1 := (hP1.bl hb8).bl hb815
    have s2 : R cOp w6.heap.size w15 P2 L2 := ((hP2.more hb68.size).bl hb10).bl hb1015
    have s3 : R cOp w6.heap.size w15 P3 L3 := ((hP3.more hb610.size).bl hb12).bl hb1215
    have hb615 := hb610.trans hb1015
    have hbw15 := hbw12.trans hb1215
    go_wp2_with fail
    refine (lawSpoil11 w6.heap.size P1 p1 L1 w15 _ (Sm.refl _) l1 s1).mono ?_
    rintro e w16 ⟨⟨v1, rfl⟩, hB16, hS16⟩
    go_wp2_with fail
    refine (lawSpoil11 w6.heap.size P2 p2 L2 w15 _ hS16 l2 s2).mono ?_
    rintro e w17 ⟨⟨v2, rfl⟩, hB17, hS17⟩
    go_wp2_with fail
    refine (lawSpoil11 w6.heap.size P3 p3 L3 w15 _ hS17 l3 s3).mono ?_
    rintro e w18 ⟨⟨v3, rfl⟩, hB18, -⟩
    have hb618 : Bl w6 w18 := hb615.step (hB16.trans (hB17.trans hB18))
    go_wp2_with fail
    refine (sameSelf11 a hlm (hX.zero.bl (hb6.trans hb618)) (hA.bl (hbw6.trans hb618))).mono ?_
    rintro e w19 ⟨rfl, hb19⟩
    go_wp2_with fail
    refine (sameSelf11 b hlb' (hY.zero.bl (hb618.trans hb19)) (hB.bl ((hbw6.trans hb618).trans hb19))).mono ?_
    rintro e w20 ⟨rfl, hb20⟩
    go_wp2_with fail
    go_ret
    exact ⟨rfl, (hbw6.trans hb618).trans (hb19.trans hb20)⟩
end Go.Proofs.Ytedcopjpgijpjaa

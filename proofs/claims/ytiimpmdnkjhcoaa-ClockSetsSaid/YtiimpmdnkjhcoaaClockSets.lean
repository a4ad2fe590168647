/-
  The walk of ClockSets.
-/
import Derived.Test.YtiimpmdnkjhcoaaLawB
import Derived.Test.YtiimpmdnkjhcoaaGood
namespace Go.Proofs.Ytiimpmdnkjhcoaa
open Go.RowKit

theorem csetN_add {a : List Times} {y : Id} (ha : clockMay a = true) (hf : few a) (hy : y.ok) : (idMay y = true → CGood orB a (oneT y) (cSetL orB a (oneT y))) ∧ (idMay y = false → cSetN orB a (oneT y) = 8 ∧ cSetL orB a (oneT y) = []) := by
  refine ⟨fun h => cset_good rfl ha ((one_may hy).trans h) (fun r _ => ?_) or_sub, fun h => cset_bad orB (by rw [one_may hy, h, Bool.and_false])⟩
  have h1 := first_le hf.2 r
  have h2 := first_one y r
  omega

set_option maxRecDepth 100000 in
set_option maxHeartbeats 8000000 in
theorem lawClockSets08 (A B : Option Addr) (c d : Nat) (a b : List Times) (x y : Id) (w : World) (hla : a.length ≤ 140737488355328) (hlb : b.length ≤ 140737488355328) (hsa : ∀ y ∈ a, y.s.length ≤ 140737488355328) (hsb : ∀ y ∈ b, y.s.length ≤ 140737488355328)
    (hx : x.ok) (hy : y.ok) (hA : R cTimes 0 w A a) (hB : R cTimes 0 w B b) :
    Calls Try.prog 9 #[.slice A a.length c, .slice B b.length d, .agg #[.int .u32 x.t, .int .u8 x.r], .agg #[.int .u32 y.t, .int .u8 y.r]] w fun e w' => e = .returned (.bool true) ∧ Bl w w' := by
  have ham : a.length ≤ maxLen := by unfold maxLen; omega
  have hbm : b.length ≤ maxLen := by unfold maxLen; omega
  have hga := hide fun V (hv : Bl w V) => refGreat08 A c a V hla hsa (hA.bl hv)
  have hgb := hide fun V (hv : Bl w V) => refGreat08 B d b V hlb hsb (hB.bl hv)
  have pjoin := fun V (hv : Bl w V) => clockJoin A B c d a b V hla hlb (hA.bl hv) (hB.bl hv)
  have pless := fun V (hv : Bl w V) => clockLess A B c d a b V hla hlb (hA.bl hv) (hB.bl hv)
  have padd := fun V (hv : Bl w V) => clockAdd A c a y V hla hy (hA.bl hv)
  obtain ⟨W, hW⟩ : ∃ W, W = (w.alloc (.cells #[Value.int IntKind.u32 x.t, Value.int IntKind.u8 x.r] 39)).alloc (.cells #[Value.int IntKind.u32 y.t, Value.int IntKind.u8 y.r] 39) := ⟨_, rfl⟩
  have hb0 : Bl w W := by rw [hW]; exact ((Bl.refl _).alloc _).alloc _
  have at0 : IdBox W w.heap.size x := by rw [hW]; exact (IdBox.new w x _).bl ((Bl.refl _).alloc _)
  have at1 : IdBox W (w.heap.size + 1) y := by
    have h := IdBox.new (w.alloc (.cells #[Value.int IntKind.u32 x.t, Value.int IntKind.u8 x.r] 39)) y 39
    rw [World.size_alloc w] at h
    rw [hW]
    exact h
  have heq := run_eqId x y
  cases hm : clockMay a && clockMay b
  · obtain ⟨n1, l1⟩ := cset_bad orB hm
    obtain ⟨n2, l2⟩ := cset_bad lessB hm
    simp only [n1, l1] at pjoin
    simp only [n2, l2] at pless
    generalize cSetL orB a (oneT y) = L3 at *
    generalize cSetN orB a (oneT y) = N3 at *
    replace pjoin := hide pjoin
    replace pless := hide pless
    replace padd := hide padd
    clear hm n1 n2 l1 l2 heq
    go_enter Try.func9, Try.ntmps9
    go_wp2_with fail
    rw [← hW]
    clear hW
    refine (lawAlive08 _).mono ?_
    rintro e w1 ⟨rfl, hb1⟩
    go_wp2_with fail
    refine (hga.out _ (by repeat first | assumption | exact Bl.refl _ | refine Bl.alloc ?_ _ | refine Bl.trans ?_ (by assumption))).mono ?_
    rintro e w2 ⟨q1, rfl, hfa, hb2⟩
    clear hfa
    cases q1
    rotate_left
    · go_wp2_with fail
      go_ret
      exact ⟨rfl, (by repeat first | assumption | exact Bl.refl _ | refine Bl.alloc ?_ _ | refine Bl.trans ?_ (by assumption))⟩
    go_wp2_with fail
    refine (hgb.out _ (by repeat first | assumption | exact Bl.refl _ | refine Bl.alloc ?_ _ | refine Bl.trans ?_ (by assumption))).mono ?_
    rintro e w3 ⟨q2, rfl, hfb, hb3⟩
    clear hfb
    cases q2
    rotate_left
    · go_wp2_with fail
      go_ret
      exact ⟨rfl, (by repeat first | assumption | exact Bl.refl _ | refine Bl.alloc ?_ _ | refine Bl.trans ?_ (by assumption))⟩
    go_wp2_with fail
    refine (pjoin.out _ (by repeat first | assumption | exact Bl.refl _ | refine Bl.alloc ?_ _ | refine Bl.trans ?_ (by assumption))).mono ?_
    rintro e w4 ⟨X, k, rfl, x1, x2, hX, hb4⟩
    go_wp2_with fail
    refine (pless.out _ (by repeat first | assumption | exact Bl.refl _ | refine Bl.alloc ?_ _ | refine Bl.trans ?_ (by assumption))).mono ?_
    rintro e w5 ⟨Y, m, rfl, y1, y2, hY, hb5⟩
    obtain ⟨Y0, Y1, -, -⟩ := at1.bl (show Bl W w5 from (by repeat first | assumption | exact Bl.refl _ | refine Bl.alloc ?_ _ | refine Bl.trans ?_ (by assumption)))
    go_wp2_with fail
    refine (padd.out _ (by repeat first | assumption | exact Bl.refl _ | refine Bl.alloc ?_ _ | refine Bl.trans ?_ (by assumption))).mono ?_
    rintro e w6 ⟨Z, n, rfl, z1, z2, hZ, hb6⟩
    go_wp2_with fail
    go_ret
    exact ⟨rfl, (by repeat first | assumption | exact Bl.refl _ | refine Bl.alloc ?_ _ | refine Bl.trans ?_ (by assumption))⟩
  · rw [Bool.and_eq_true] at hm
    have padd3 : few a → ∃ L3 N3, (cSetL orB a (oneT y) = L3 ∧ cSetN orB a (oneT y) = N3 ∧ L3.length ≤ 8) ∧ ((N3 = 0 ∧ clockHas L3 x = (clockHas a x || !neqId x y)) ∨ N3 = 8) := fun hf => by
      obtain ⟨h1, h2⟩ := csetN_add hm.1 hf hy
      cases q : idMay y
      · obtain ⟨e1, e2⟩ := h2 q
        exact ⟨_, _, ⟨rfl, rfl, by rw [e2]; exact Nat.zero_le _⟩, .inr e1⟩
      · have g := h1 q
        refine ⟨_, _, ⟨rfl, rfl, g.len⟩, .inl ⟨g.n, ?_⟩⟩
        rw [g.has rfl hm.1 ((one_may hy).trans q) x hx.2.2.1, has_one q hy]
        unfold orB neqId
        rw [Bool.not_not]
    have hgood : few a → few b → CGood orB a b (cSetL orB a b) ∧ CGood lessB a b (cSetL lessB a b) := fun ha hb =>
      have hl : ∀ r : Nat, r < 8 → (firstOf a r).length + (firstOf b r).length ≤ 1024 := fun r _ => by
        have h1 := first_le ha.2 r
        have h2 := first_le hb.2 r
        omega
      ⟨cset_good rfl hm.1 hm.2 hl or_sub, cset_good rfl hm.1 hm.2 hl less_sub⟩
    have hgood2 : few a → few b → ∃ X0 Y0, ((cSetL orB a b = X0 ∧ cSetN orB a b = 0) ∧ (cSetL lessB a b = Y0 ∧ cSetN lessB a b = 0)) ∧ (X0.length ≤ 8 ∧ Y0.length ≤ 8) ∧ (clockMay X0 = true ∧ clockMay Y0 = true) ∧ clockHas X0 x = (clockHas a x || clockHas b x) ∧ clockHas Y0 x = (clockHas a x && !clockHas b x) := fun ha hb => by
      obtain ⟨g1, g2⟩ := hgood ha hb
      exact ⟨_, _, ⟨⟨rfl, g1.n⟩, ⟨rfl, g2.n⟩⟩, ⟨g1.len, g2.len⟩, ⟨g1.may, g2.may⟩, g1.has rfl hm.1 hm.2 x hx.2.2.1, g2.has rfl hm.1 hm.2 x hx.2.2.1⟩
    have hha := fun V (hv : Bl w V) => clockHasC A c a x V hla hx (hA.bl hv)
    have hhb := fun V (hv : Bl w V) => clockHasC B d b x V hlb hx (hB.bl hv)
    replace pjoin := hide pjoin
    replace pless := hide pless
    replace padd := hide padd
    replace padd3 := hide padd3
    replace hgood2 := hide hgood2
    generalize neqId x y = v at *
    generalize clockHas a x = p at *
    generalize clockHas b x = q at *
    clear hm hgood
    replace hha := hide hha
    replace hhb := hide hhb
    go_enter Try.func9, Try.ntmps9
    go_wp2_with fail
    rw [← hW]
    clear hW
    refine (lawAlive08 _).mono ?_
    rintro e w1 ⟨rfl, hb1⟩
    go_wp2_with fail
    refine (hga.out _ (by repeat first | assumption | exact Bl.refl _ | refine Bl.alloc ?_ _ | refine Bl.trans ?_ (by assumption))).mono ?_
    rintro e w2 ⟨q1, rfl, hfa, hb2⟩
    cases q1
    rotate_left
    · clear hfa
      go_wp2_with fail
      go_ret
      exact ⟨rfl, (by repeat first | assumption | exact Bl.refl _ | refine Bl.alloc ?_ _ | refine Bl.trans ?_ (by assumption))⟩
    replace hfa := hide (hfa rfl)
    go_wp2_with fail
    refine (hgb.out _ (by repeat first | assumption | exact Bl.refl _ | refine Bl.alloc ?_ _ | refine Bl.trans ?_ (by assumption))).mono ?_
    rintro e w3 ⟨q2, rfl, hfb, hb3⟩
    cases q2
    rotate_left
    · clear hfb
      go_wp2_with fail
      go_ret
      exact ⟨rfl, (by repeat first | assumption | exact Bl.refl _ | refine Bl.alloc ?_ _ | refine Bl.trans ?_ (by assumption))⟩
    replace hfb := hide (hfb rfl)
    obtain ⟨L3, N3, ⟨e3, f3, l3⟩, h3⟩ := padd3.out hfa.out
    obtain ⟨X0, Y0, ⟨⟨e1, f1⟩, ⟨e2, f2⟩⟩, ⟨lx, ly⟩, ⟨mx, my⟩, ex, ey⟩ := hgood2.out hfa.out hfb.out
    have pjoin := pjoin.out
    have pless := pless.out
    have padd := padd.out
    rw [e1, f1] at pjoin
    rw [e2, f2] at pless
    rw [e3, f3] at padd
    clear e1 e2 e3 f1 f2 f3 padd3 hgood2 hga hgb hfa hfb
    replace pjoin := hide pjoin
    replace pless := hide pless
    replace padd := hide padd
    have lx' : X0.length ≤ 140737488355328 := by omega
    have ly' : Y0.length ≤ 140737488355328 := by omega
    have l3' : L3.length ≤ 140737488355328 := by omega
    have ux := fun X k V (hX : R cTimes 0 V X X0) => clockHasC X k X0 x V lx' hx hX
    have uy := fun X k V (hX : R cTimes 0 V X Y0) => clockHasC X k Y0 x V ly' hx hX
    have uz := fun X k V (hX : R cTimes 0 V X L3) => clockHasC X k L3 x V l3' hx hX
    have cx := fun X k V (hX : R cTimes 0 V X X0) => clockCheck X k X0 V (by unfold maxLen; omega) hX
    have cy := fun X k V (hX : R cTimes 0 V X Y0) => clockCheck X k Y0 V (by unfold maxLen; omega) hX
    rw [ex] at ux
    rw [ey] at uy
    rw [mx, okOr_true] at cx
    rw [my, okOr_true] at cy
    clear ex ey mx my lx ly l3 lx' ly' l3'
    replace ux := hide ux
    replace uy := hide uy
    replace uz := hide uz
    replace cx := hide cx
    replace cy := hide cy
    replace h3 := hide h3
    go_wp2_with fail
    refine (pjoin.out _ (by repeat first | assumption | exact Bl.refl _ | refine Bl.alloc ?_ _ | refine Bl.trans ?_ (by assumption))).mono ?_
    rintro e w4 ⟨X, k, rfl, x1, x2, hX, hb4⟩
    go_wp2_with fail
    refine (pless.out _ (by repeat first | assumption | exact Bl.refl _ | refine Bl.alloc ?_ _ | refine Bl.trans ?_ (by assumption))).mono ?_
    rintro e w5 ⟨Y, m, rfl, y1, y2, hY, hb5⟩
    obtain ⟨Z0, Z1, -, -⟩ := at1.bl (show Bl W w5 from (by repeat first | assumption | exact Bl.refl _ | refine Bl.alloc ?_ _ | refine Bl.trans ?_ (by assumption)))
    go_wp2_with fail
    refine (padd.out _ (by repeat first | assumption | exact Bl.refl _ | refine Bl.alloc ?_ _ | refine Bl.trans ?_ (by assumption))).mono ?_
    rintro e w6 ⟨Z, n, rfl, z1, z2, hZ, hb6⟩
    clear Z0 Z1
    have hX6 := hX.zero.bl (show Bl w4 w6 from (by repeat first | assumption | exact Bl.refl _ | refine Bl.alloc ?_ _ | refine Bl.trans ?_ (by assumption)))
    have hY6 := hY.zero.bl (show Bl w5 w6 from (by repeat first | assumption | exact Bl.refl _ | refine Bl.alloc ?_ _ | refine Bl.trans ?_ (by assumption)))
    have hZ6 := hZ.zero
    have hbW6 : Bl W w6 := (by repeat first | assumption | exact Bl.refl _ | refine Bl.alloc ?_ _ | refine Bl.trans ?_ (by assumption))
    have at6 := at0.bl hbW6
    have bt6 := at1.bl hbW6
    have hb06 : Bl w w6 := hb0.trans hbW6
    have kx := hide fun p : Wd w6 => ux.out X k p.v (hX6.bl p.h)
    have ky := hide fun p : Wd w6 => uy.out Y m p.v (hY6.bl p.h)
    have kz := hide fun p : Wd w6 => uz.out Z n p.v (hZ6.bl p.h)
    have ka := hide fun p : Wd w6 => hha.out p.v (hb06.trans p.h)
    have kb := hide fun p : Wd w6 => hhb.out p.v (hb06.trans p.h)
    have S0 := fun p : Wd w6 => Wd.cell at6.c0 at6.lt p
    have S1 := fun p : Wd w6 => Wd.cell at6.c1 at6.lt p
    have T0 := fun p : Wd w6 => Wd.cell bt6.c0 bt6.lt p
    have T1 := fun p : Wd w6 => Wd.cell bt6.c1 bt6.lt p
    clear hb1 hb2 hb3 hb4 hb5 hb6 hX hY hZ at0 at1 hb0 hbW6
    cases p <;> cases q
    all_goals
      go_upto_region 9 with fail
      (refine wp_region_wd (by kernel_rfl) (by kernel_rfl) ?_
       repeat (go_big_quiet_step ((first | (go_at_call 44; first | with_reducible exact Calls.wd (kx.out _) | with_reducible exact Calls.wd (ky.out _) | with_reducible exact Calls.wd (kz.out _) | with_reducible exact Calls.wd (ka.out _) | with_reducible exact Calls.wd (kb.out _)))))
       refine wpQuiet_nil ?_
       intro w7 hw'
       obtain ⟨⟨wx, hb7⟩, hw''⟩ := hw'
       subst hw'')
      have hX7 := hX6.bl hb7
      have hY7 := hY6.bl hb7
      rcases h3.out with ⟨h30, h31⟩ | h30
      all_goals
        subst h30
        have kz := fun p : Wd w7 => uz.out Z n p.v (hZ6.bl (hb7.trans p.h))
        try rw [h31] at kz
        replace kz := hide kz
        have ka := hide fun p : Wd w7 => hha.out p.v ((hb06.trans hb7).trans p.h)
        have S0 := fun p : Wd w7 => Wd.cell (at6.bl hb7).c0 (at6.bl hb7).lt p
        have S1 := fun p : Wd w7 => Wd.cell (at6.bl hb7).c1 (at6.bl hb7).lt p
        have T0 := fun p : Wd w7 => Wd.cell (bt6.bl hb7).c0 (bt6.bl hb7).lt p
        have T1 := fun p : Wd w7 => Wd.cell (bt6.bl hb7).c1 (bt6.bl hb7).lt p
        go_upto_region 10 with fail
        (refine wp_region_wd (by kernel_rfl) (by kernel_rfl) ?_
         repeat (go_big_quiet_step ((first | (go_at_call 44; first | with_reducible exact Calls.wd (kx.out _) | with_reducible exact Calls.wd (ky.out _) | with_reducible exact Calls.wd (kz.out _) | with_reducible exact Calls.wd (ka.out _) | with_reducible exact Calls.wd (kb.out _)))))
         refine wpQuiet_nil ?_
         intro w8 hw'
         obtain ⟨⟨wx, hb8⟩, hw''⟩ := hw'
         subst hw'')
        go_wp2_with fail
        refine (cx.out X k _ (hX7.bl hb8)).mono ?_
        rintro e w9 ⟨rfl, hb9⟩
        go_wp2_with fail
        refine (cy.out Y m _ (hY7.bl (hb8.trans hb9))).mono ?_
        rintro e w10 ⟨rfl, hb10⟩
        go_wp2_with fail
        go_ret
        exact ⟨rfl, hb06.trans (hb7.trans (hb8.trans (hb9.trans hb10)))⟩
end Go.Proofs.Ytiimpmdnkjhcoaa

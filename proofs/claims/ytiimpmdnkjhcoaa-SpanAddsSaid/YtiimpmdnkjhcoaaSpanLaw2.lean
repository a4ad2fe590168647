/-
  The walks of SpanJoins, SpanAdds; what they say of sets of times.
-/
import Derived.Test.YtiimpmdnkjhcoaaSpanLaw
namespace Go.Proofs.Ytiimpmdnkjhcoaa
open Go.RowKit

theorem count_le (l : List Span) : 0 ≤ spansCount l ∧ spansCount l ≤ 1099511627776 := by
  unfold spansCount
  split
  · rename_i h
    obtain ⟨h1, _, h3⟩ := may_can h
    have hf : spansFrom 1 l = true := by unfold spansMay at h; rw [Bool.and_eq_true] at h; exact h.2
    obtain ⟨k1, k2⟩ := spansMany_le l 1 (by omega) hf
    omega
  · omega

theorem count_meas {l : List Span} (h : spansMay l = true) : spansCount l = meas (spansHave l) 1073741825 := by
  obtain ⟨h1, h2, _⟩ := may_can h
  unfold spansCount
  rw [if_pos h]
  exact many_meas h1 (by omega) fun x hx => by have := h2 x hx; omega

/-- All that SpanJoins asks. -/
structure JoinsOk (a b X L : List Span) : Prop where
  x : Good orB a b X
  y : Good orB b a X
  z : Good orB X b X
  l : Good lessB a b L
  m : Good orB L b X
  n : Good lessB L b L
  c : spansCount X = spansCount L + spansCount b

theorem Good.is {want : Bool → Bool → Bool} {a b L M : List Span} (h : Good want a b L) (hM : Can 1 M) (_hl : M.length ≤ a.length + b.length) (e : ∀ u, spansHave M u = want (spansHave a u) (spansHave b u)) : Good want a b M := by
  have : L = M := h.can.ext hM fun u => by rw [h.has, e]
  exact this ▸ h

theorem joins_ok {a b : List Span} (ha : spansMay a = true) (hb : spansMay b = true) (hla : a.length ≤ 300) (hlb : b.length ≤ 300) : JoinsOk a b (setF orB a b) (setF lessB a b) := by
  have x := set_good (want := orB) rfl ha hb (by omega) or_sub
  have l := set_good (want := lessB) rfl ha hb (by omega) less_sub
  generalize setF orB a b = X at *
  generalize setF lessB a b = L at *
  have y := (set_good (want := orB) rfl hb ha (by omega) or_sub).is x.can (by have := x.len; omega) fun u => by rw [x.has]; unfold orB; exact Bool.or_comm _ _
  have z := (set_good (want := orB) rfl x.may hb (by have := x.len; omega) or_sub).is x.can (by omega) fun u => by rw [x.has]; unfold orB; cases spansHave a u <;> cases spansHave b u <;> rfl
  have n := (set_good (want := lessB) rfl l.may hb (by have := l.len; omega) less_sub).is l.can (by omega) fun u => by rw [l.has]; unfold lessB; cases spansHave a u <;> cases spansHave b u <;> rfl
  have m0 := set_good (want := orB) rfl l.may hb (by have := l.len; omega) or_sub
  have m : Good orB L b X := by
    have e : setF orB L b = X := m0.can.ext x.can fun u => by rw [m0.has, x.has, l.has]; unfold orB lessB; cases spansHave a u <;> cases spansHave b u <;> rfl
    exact e ▸ m0
  refine ⟨x, y, z, l, m, n, ?_⟩
  rw [count_meas x.may, count_meas l.may, count_meas hb, ← meas_or (fun u hu => ?_)]
  · exact meas_congr (fun u => by rw [m.has]; rfl) _
  · rw [l.has] at hu
    unfold lessB at hu
    revert hu
    cases spansHave a u <;> cases spansHave b u <;> decide

set_option maxRecDepth 100000 in
set_option maxHeartbeats 4000000 in
theorem lawSpanJoins07 (A B : Option Addr) (c d : Nat) (a b : List Span) (w : World) (hla : a.length ≤ 140737488355328) (hlb : b.length ≤ 140737488355328) (hA : R cSpan 0 w A a) (hB : R cSpan 0 w B b) :
    Calls Try.prog 4 #[.slice A a.length c, .slice B b.length d] w fun e w' => e = .returned (.bool true) ∧ Bl w w' := by
  have hal := hide (lawAlive07 w)
  have ham : a.length ≤ maxLen := by unfold maxLen; omega
  have hbm : b.length ≤ maxLen := by unfold maxLen; omega
  have hca := fun V (hv : Bl w V) => spanCheck A c a V ham (hA.bl hv)
  have hcb := fun V (hv : Bl w V) => spanCheck B d b V hbm (hB.bl hv)
  have hkb := hide fun V (hv : Bl w V) => spanCount B d b V hbm (hB.bl hv)
  by_cases h1 : (300 : Int) < (a.length : Int)
  · go_enter Try.func4, Try.ntmps4
    go_wp2_with fail
    refine hal.out.mono ?_
    rintro e w1 ⟨rfl, hb1⟩
    go_wp2_with fail
    go_ret
    exact ⟨rfl, hb1⟩
  by_cases h2 : (300 : Int) < (b.length : Int)
  · go_enter Try.func4, Try.ntmps4
    go_wp2_with fail
    refine hal.out.mono ?_
    rintro e w1 ⟨rfl, hb1⟩
    go_wp2_with fail
    go_ret
    exact ⟨rfl, hb1⟩
  cases hma : spansMay a
  · rw [hma] at hca
    replace hca := hide hca
    clear hma
    go_enter Try.func4, Try.ntmps4
    go_wp2_with fail
    refine hal.out.mono ?_
    rintro e w1 ⟨rfl, hb1⟩
    go_wp2_with fail
    refine (hca.out _ hb1).mono ?_
    rintro e w2 ⟨rfl, hb2⟩
    rw [okOr_false]
    go_wp2_with fail
    go_ret
    exact ⟨rfl, hb1.trans hb2⟩
  cases hmb : spansMay b
  · rw [hma] at hca
    rw [hmb] at hcb
    replace hca := hide hca
    replace hcb := hide hcb
    clear hma hmb
    go_enter Try.func4, Try.ntmps4
    go_wp2_with fail
    refine hal.out.mono ?_
    rintro e w1 ⟨rfl, hb1⟩
    go_wp2_with fail
    refine (hca.out _ hb1).mono ?_
    rintro e w2 ⟨rfl, hb2⟩
    rw [okOr_true]
    go_wp2_with fail
    refine (hcb.out _ (hb1.trans hb2)).mono ?_
    rintro e w3 ⟨rfl, hb3⟩
    rw [okOr_false]
    go_wp2_with fail
    go_ret
    exact ⟨rfl, (hb1.trans hb2).trans hb3⟩
  rw [hma] at hca
  rw [hmb] at hcb
  have g := joins_ok hma hmb (by omega) (by omega)
  generalize setF orB a b = X0 at *
  generalize setF lessB a b = L0 at *
  have jx := fun V (hv : Bl w V) => spanJoin A B c d a b V ham hbm (hA.bl hv) (hB.bl hv)
  have jy := fun V (hv : Bl w V) => spanJoin B A d c b a V hbm ham (hB.bl hv) (hA.bl hv)
  have jz := fun X x V (k : X0.length ≤ maxLen) (hX : R cSpan 0 V X X0) (hv : Bl w V) => spanJoin X B x d X0 b V k hbm hX (hB.bl hv)
  have jl := fun V (hv : Bl w V) => spanLess A B c d a b V ham hbm (hA.bl hv) (hB.bl hv)
  have jm := fun X x V (k : L0.length ≤ maxLen) (hX : R cSpan 0 V X L0) (hv : Bl w V) => spanJoin X B x d L0 b V k hbm hX (hB.bl hv)
  have jn := fun X x V (k : L0.length ≤ maxLen) (hX : R cSpan 0 V X L0) (hv : Bl w V) => spanLess X B x d L0 b V k hbm hX (hB.bl hv)
  have kx := fun X x V (k : X0.length ≤ maxLen) (hX : R cSpan 0 V X X0) => spanCount X x X0 V k hX
  have kl := fun X x V (k : L0.length ≤ maxLen) (hX : R cSpan 0 V X L0) => spanCount X x L0 V k hX
  simp only [g.x.n, g.x.l] at jx
  simp only [g.y.n, g.y.l] at jy
  simp only [g.z.n, g.z.l] at jz
  simp only [g.l.n, g.l.l] at jl
  simp only [g.m.n, g.m.l] at jm
  simp only [g.n.n, g.n.l] at jn
  rw [g.c] at kx
  have q1 := count_le L0
  have q2 := count_le b
  generalize spansCount L0 = u at *
  generalize spansCount b = v at *
  have e1 : IntKind.i64.wrap (u + v) = u + v := IntWalk.i64_in _ (by omega)
  have e2 : ((u + v) == (u + v)) = true := beq_self_eq_true _
  clear g hma hmb q1 q2
  replace hca := hide hca
  replace hcb := hide hcb
  replace jx := hide jx
  replace jy := hide jy
  replace jz := hide jz
  replace jl := hide jl
  replace jm := hide jm
  replace jn := hide jn
  replace kx := hide kx
  replace kl := hide kl
  have sx := hide fun X x Y y V (k : X0.length ≤ maxLen) (hX : R cSpan 0 V X X0) (hY : R cSpan 0 V Y X0) => (show Calls Try.prog 19 #[.slice X X0.length x, .slice Y X0.length y] V fun e w' => e = .returned (.bool true) ∧ Bl V w' by
    have := spanSame X Y x y X0 X0 V k k hX hY
    rwa [show same X0 X0 = true by unfold same; simp] at this)
  have sl := hide fun X x Y y V (k : L0.length ≤ maxLen) (hX : R cSpan 0 V X L0) (hY : R cSpan 0 V Y L0) => (show Calls Try.prog 19 #[.slice X L0.length x, .slice Y L0.length y] V fun e w' => e = .returned (.bool true) ∧ Bl V w' by
    have := spanSame X Y x y L0 L0 V k k hX hY
    rwa [show same L0 L0 = true by unfold same; simp] at this)
  go_enter Try.func4, Try.ntmps4
  go_wp2_with fail
  refine hal.out.mono ?_
  rintro e w1 ⟨rfl, hb1⟩
  go_wp2_with fail
  refine (hca.out _ hb1).mono ?_
  rintro e w2 ⟨rfl, hb2⟩
  rw [okOr_true]
  go_wp2_with fail
  refine (hcb.out _ (hb1.trans hb2)).mono ?_
  rintro e w3 ⟨rfl, hb3⟩
  rw [okOr_true]
  have hb03 := (hb1.trans hb2).trans hb3
  clear hb1 hb2 hb3
  go_wp2_with fail
  refine (jx.out _ hb03).mono ?_
  rintro e w4 ⟨X, x, rfl, x1, x2, hX, hb4⟩
  have hb04 := hb03.trans hb4
  have hXm := Nat.le_trans x1 x2
  go_wp2_with fail
  refine (jy.out _ hb04).mono ?_
  rintro e w5 ⟨Y, y, rfl, y1, y2, hY, hb5⟩
  have hb05 := hb04.trans hb5
  go_wp2_with fail
  refine (jz.out X x _ hXm (hX.zero.bl hb5) hb05).mono ?_
  rintro e w6 ⟨Z, z, rfl, z1, z2, hZ, hb6⟩
  have hb06 := hb05.trans hb6
  go_wp2_with fail
  refine (jl.out _ hb06).mono ?_
  rintro e w7 ⟨L, l, rfl, l1, l2, hL, hb7⟩
  have hb07 := hb06.trans hb7
  have hLm := Nat.le_trans l1 l2
  go_wp2_with fail
  refine (jm.out L l _ hLm hL.zero hb07).mono ?_
  rintro e w8 ⟨M, m, rfl, m1, m2, hM, hb8⟩
  have hb08 := hb07.trans hb8
  go_wp2_with fail
  refine (jn.out L l _ hLm (hL.zero.bl hb8) hb08).mono ?_
  rintro e w9 ⟨N, n, rfl, n1, n2, hN, hb9⟩
  have hb09 := hb08.trans hb9
  have hb79 := hb8.trans hb9
  have hb69 := hb7.trans hb79
  have hb59 := hb6.trans hb69
  have X9 := hX.zero.bl (hb5.trans hb59)
  have Y9 := hY.zero.bl hb59
  have Z9 := hZ.zero.bl hb69
  have L9 := hL.zero.bl hb79
  have M9 := hM.zero.bl hb9
  have N9 := hN.zero
  clear hX hY hZ hL hM hN hb59 hb69 hb79 hb4 hb5 hb6 hb7 hb8 hb9
  go_wp2_with fail
  refine (sx.out X x Y y _ hXm X9 Y9).mono ?_
  rintro e w10 ⟨rfl, hc1⟩
  go_wp2_with fail
  refine (sx.out X x Z z _ hXm (X9.bl hc1) (Z9.bl hc1)).mono ?_
  rintro e w11 ⟨rfl, hc2'⟩
  have hc2 := hc1.trans hc2'
  go_wp2_with fail
  refine (sx.out M m X x _ hXm (M9.bl hc2) (X9.bl hc2)).mono ?_
  rintro e w12 ⟨rfl, hc3'⟩
  have hc3 := hc2.trans hc3'
  go_wp2_with fail
  refine (sl.out N n L l _ hLm (N9.bl hc3) (L9.bl hc3)).mono ?_
  rintro e w13 ⟨rfl, hc4'⟩
  have hc4 := hc3.trans hc4'
  go_wp2_with fail
  refine (kx.out X x _ hXm (X9.bl hc4)).mono ?_
  rintro e w14 ⟨rfl, hc5'⟩
  have hc5 := hc4.trans hc5'
  go_wp2_with fail
  refine (kl.out L l _ hLm (L9.bl hc5)).mono ?_
  rintro e w15 ⟨rfl, hc6'⟩
  have hc6 := hc5.trans hc6'
  go_wp2_with fail
  refine (hkb.out _ (hb09.trans hc6)).mono ?_
  rintro e w16 ⟨rfl, hc7⟩
  go_wp2_with fail
  go_ret
  exact ⟨rfl, (hb09.trans hc6).trans hc7⟩
end Go.Proofs.Ytiimpmdnkjhcoaa

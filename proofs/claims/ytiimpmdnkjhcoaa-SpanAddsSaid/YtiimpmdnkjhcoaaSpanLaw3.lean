/-
  The walk of SpanAdds; what it says of sets of times.
-/
import Derived.Test.YtiimpmdnkjhcoaaSpanLaw2
namespace Go.Proofs.Ytiimpmdnkjhcoaa
open Go.RowKit

/-- All that SpanAdds asks. -/
structure AddsOk (l : List Span) (f t : Int) (X : List Span) : Prop where
  x : Good orB l [⟨f, t⟩] X
  z : Good lessB X X []
  hf : spanHasB X f = true
  ht : spanHasB X t = true
  c : t - f + 1 ≤ spansCount X

theorem adds_ok {l : List Span} {f t : Int} (hl : spansMay l = true) (hx : okX ⟨f, t⟩ = true) (hll : l.length ≤ 300) : AddsOk l f t (setF orB l [⟨f, t⟩]) := by
  have hone : spansMay [(⟨f, t⟩ : Span)] = true := by rw [may_one]; exact hx
  have x := set_good (want := orB) rfl hl hone (by simp; omega) or_sub
  have hlen := x.len
  simp at hlen
  generalize setF orB l [⟨f, t⟩] = X at *
  have z := (set_good (want := lessB) rfl x.may x.may (by omega) less_sub).is (M := []) trivial (by simp) fun u => by rw [have_nil]; unfold lessB; cases spansHave X u <;> rfl
  obtain ⟨h1, h2, h3⟩ := okX_iff.1 hx
  dsimp only at h1 h2 h3
  have hin : ∀ u, f ≤ u → u ≤ t → spansHave X u = true := fun u k1 k2 => by
    rw [x.has, have_one, show inX ⟨f, t⟩ u = true from inX_iff.2 ⟨k1, k2⟩]
    unfold orB
    simp
  refine ⟨x, z, ?_, ?_, ?_⟩
  · unfold spanHasB
    rw [x.may, hin f (Int.le_refl _) h2]
    rfl
  · unfold spanHasB
    rw [x.may, hin t h2 (Int.le_refl _)]
    rfl
  · rw [count_meas x.may]
    have h := meas_le (P := inX ⟨f, t⟩) (Q := spansHave X) (fun u hu => by
      obtain ⟨k1, k2⟩ := inX_iff.1 hu
      exact hin u k1 k2) 1073741825
    rw [meas_one (x := ⟨f, t⟩) (by dsimp only; omega)] at h
    dsimp only at h
    omega

set_option maxRecDepth 100000 in
set_option maxHeartbeats 4000000 in
theorem lawSpanAdds07 (A : Option Addr) (c : Nat) (l : List Span) (f t : Int) (w : World) (hll : l.length ≤ 140737488355328) (hx : (⟨f, t⟩ : Span).ok) (hA : R cSpan 0 w A l) :
    Calls Try.prog 7 #[.slice A l.length c, .int .u32 f, .int .u32 t] w fun e w' => e = .returned (.bool true) ∧ Bl w w' := by
  have hal := hide (lawAlive07 w)
  have hlm : l.length ≤ maxLen := by unfold maxLen; omega
  have hadd := fun V (hv : Bl w V) => spanAdd A c l ⟨f, t⟩ V hlm hx (hA.bl hv)
  dsimp only at hadd
  by_cases h1 : (300 : Int) < (l.length : Int)
  · go_enter Try.func7, Try.ntmps7
    go_wp2_with fail
    refine hal.out.mono ?_
    rintro e w1 ⟨rfl, hb1⟩
    go_wp2_with fail
    go_ret
    exact ⟨rfl, hb1⟩
  cases hm : spansMay l
  · have e1 : sAddL l ⟨f, t⟩ = [] := by unfold sAddL; rw [hm]; rfl
    have e2 : sAddN l ⟨f, t⟩ = 8 := by unfold sAddN; rw [hm]; rfl
    simp only [e1, e2] at hadd
    replace hadd := hide hadd
    clear e1 e2 hm
    go_enter Try.func7, Try.ntmps7
    go_wp2_with fail
    refine hal.out.mono ?_
    rintro e w1 ⟨rfl, hb1⟩
    go_wp2_with fail
    refine (hadd.out _ hb1).mono ?_
    rintro e w2 ⟨X, x, rfl, x1, x2, hX, hb2⟩
    go_wp2_with fail
    go_ret
    exact ⟨rfl, hb1.trans hb2⟩
  cases ho : okX ⟨f, t⟩
  · have e1 : sAddL l ⟨f, t⟩ = [] := by unfold sAddL; rw [hm, ho]; rfl
    have e2 : sAddN l ⟨f, t⟩ = 2 := by unfold sAddN; rw [hm, ho]; rfl
    simp only [e1, e2] at hadd
    replace hadd := hide hadd
    clear e1 e2 hm ho
    go_enter Try.func7, Try.ntmps7
    go_wp2_with fail
    refine hal.out.mono ?_
    rintro e w1 ⟨rfl, hb1⟩
    go_wp2_with fail
    refine (hadd.out _ hb1).mono ?_
    rintro e w2 ⟨X, x, rfl, x1, x2, hX, hb2⟩
    go_wp2_with fail
    go_ret
    exact ⟨rfl, hb1.trans hb2⟩
  have g := adds_ok hm ho (by omega)
  have e1 : sAddL l ⟨f, t⟩ = setF orB l [⟨f, t⟩] := by unfold sAddL; rw [hm, ho]; exact g.x.l
  have e2 : sAddN l ⟨f, t⟩ = 0 := by unfold sAddN; rw [hm, ho]; exact g.x.n
  simp only [e1, e2] at hadd
  clear e1 e2
  generalize setF orB l [⟨f, t⟩] = X0 at *
  obtain ⟨o1, o2, o3⟩ := okX_iff.1 ho
  dsimp only at o1 o2 o3
  have jy := fun Y y V (hY : R cSpan 0 V Y [⟨f, t⟩]) (hv : Bl w V) => spanJoin A Y c y l [⟨f, t⟩] V hlm (by simp [maxLen]) (hA.bl hv) hY
  have jz := fun X x V (k : X0.length ≤ maxLen) (hX : R cSpan 0 V X X0) => spanLess X X x x X0 X0 V k k hX hX
  have hhf := fun X x V (k : X0.length ≤ maxLen) (hX : R cSpan 0 V X X0) => spanHas X x X0 f V k hX
  have hht := fun X x V (k : X0.length ≤ maxLen) (hX : R cSpan 0 V X X0) => spanHas X x X0 t V k hX
  have hkx := hide fun X x V (k : X0.length ≤ maxLen) (hX : R cSpan 0 V X X0) => spanCount X x X0 V k hX
  have hof := hide fun V => of07 (some ⟨V.heap.size, 0, none⟩) 2 1 1 2 [⟨f, t⟩] [f, t] _ rfl rfl (by omega) rfl rfl (R.lit [f, t] (by intro u hu; simp at hu; rcases hu with rfl | rfl <;> (unfold u32ok; omega)) V 23)
  have sx := hide fun X x Y y V (k : X0.length ≤ maxLen) (hX : R cSpan 0 V X X0) (hY : R cSpan 0 V Y X0) => (show Calls Try.prog 19 #[.slice X X0.length x, .slice Y X0.length y] V fun e w' => e = .returned (.bool true) ∧ Bl V w' by
    have := spanSame X Y x y X0 X0 V k k hX hY
    rwa [show same X0 X0 = true by unfold same; simp] at this)
  simp only [g.x.n, g.x.l] at jy
  simp only [g.z.n, g.z.l] at jz
  rw [g.hf] at hhf
  rw [g.ht] at hht
  have hc := g.c
  have hc2 := count_le X0
  generalize spansCount X0 = n at *
  have f1 : IntKind.u32.wrap (t - f) = t - f := IntWalk.u32_in _ (by omega)
  have f2 : IntKind.i64.wrap (t - f) = t - f := IntWalk.i64_in _ (by omega)
  have f3 : IntKind.i64.wrap (t - f + 1) = t - f + 1 := IntWalk.i64_in _ (by omega)
  clear g hm ho hc2
  replace hadd := hide hadd
  replace jy := hide jy
  replace jz := hide jz
  replace hhf := hide hhf
  replace hht := hide hht
  go_enter Try.func7, Try.ntmps7
  go_wp2_with fail
  refine hal.out.mono ?_
  rintro e w1 ⟨rfl, hb1⟩
  go_wp2_with fail
  refine (hadd.out _ hb1).mono ?_
  rintro e w2 ⟨X, x, rfl, x1, x2, hX, hb2⟩
  have hXm := Nat.le_trans x1 x2
  have hb02 := hb1.trans hb2
  go_wp2_with fail
  refine (hof.out w2).mono ?_
  rintro e w3 ⟨F, fc, rfl, f1', f2', hF, hb3'⟩
  have hb3 := ((Bl.refl w2).alloc _).trans hb3'
  have hb03 := hb02.trans hb3
  go_wp2_with fail
  refine (jy.out F fc _ hF.zero hb03).mono ?_
  rintro e w4 ⟨Y, y, rfl, y1, y2, hY, hb4⟩
  have hb04 := hb03.trans hb4
  go_wp2_with fail
  refine (jz.out X x _ hXm (hX.zero.bl (hb3.trans hb4))).mono ?_
  rintro e w5 ⟨Z, z, rfl, z1, z2, hZ, hb5⟩
  have hb05 := hb04.trans hb5
  have X5 := hX.zero.bl ((hb3.trans hb4).trans hb5)
  have Y5 := hY.zero.bl hb5
  clear hX hY hZ hF hb3 hb4 hb5 hb3'
  go_wp2_with fail
  refine (sx.out X x Y y _ hXm X5 Y5).mono ?_
  rintro e w6 ⟨rfl, hc1⟩
  go_wp2_with fail
  refine (hhf.out X x _ hXm (X5.bl hc1)).mono ?_
  rintro e w7 ⟨rfl, hc2'⟩
  have hc2 := hc1.trans hc2'
  go_wp2_with fail
  refine (hht.out X x _ hXm (X5.bl hc2)).mono ?_
  rintro e w8 ⟨rfl, hc3'⟩
  have hc3 := hc2.trans hc3'
  go_wp2_with fail
  refine (hkx.out X x _ hXm (X5.bl hc3)).mono ?_
  rintro e w9 ⟨rfl, hc4⟩
  go_wp2_with fail
  go_ret
  exact ⟨rfl, (hb05.trans hc3).trans hc4⟩
end Go.Proofs.Ytiimpmdnkjhcoaa

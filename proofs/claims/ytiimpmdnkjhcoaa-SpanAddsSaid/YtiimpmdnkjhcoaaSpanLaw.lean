/-
  The walks of SpanSets, SpanJoins, SpanAdds; what they say of sets of times.
-/
import Derived.Test.YtiimpmdnkjhcoaaLaw07
namespace Go.Proofs.Ytiimpmdnkjhcoaa
open Go.RowKit

/-- What span.set answers, if both may be and are not long. -/
structure Good (want : Bool → Bool → Bool) (a b L : List Span) : Prop where
  n : setN want a b = 0
  l : setL want a b = L
  may : spansMay L = true
  can : Can 1 L
  top : ∀ x ∈ L, x.t ≤ 1073741824
  has : ∀ u, spansHave L u = want (spansHave a u) (spansHave b u)
  len : L.length ≤ a.length + b.length

theorem set_good {want : Bool → Bool → Bool} (hw : want false false = false) {a b : List Span} (ha : spansMay a = true) (hb : spansMay b = true) (hl : a.length + b.length ≤ 1024) (hs : ∀ p q, want p q = true → p = true ∨ q = true) : Good want a b (setF want a b) := by
  obtain ⟨a1, a2, _⟩ := may_can ha
  obtain ⟨b1, b2, _⟩ := may_can hb
  obtain ⟨k1, k2⟩ := setF_ok want hw a1 b1
  have hlen := setF_len want a b
  have ht := top_or k1 (fun u hu => hs _ _ ((k2 u).symm.trans hu)) a2 b2
  have hn : setN want a b = 0 := by unfold setN; rw [ha, hb]; simp; omega
  exact ⟨hn, by unfold setL; rw [if_pos hn], may_of k1 ht (by omega), k1, ht, k2, hlen⟩

theorem set_bad (want : Bool → Bool → Bool) {a b : List Span} (h : (spansMay a && spansMay b) = false) : setN want a b = 8 ∧ setL want a b = [] := by
  have hn : setN want a b = 8 := by unfold setN; rw [h]; rfl
  exact ⟨hn, by unfold setL; rw [hn]; rfl⟩

theorem or_sub : ∀ p q, orB p q = true → p = true ∨ q = true := by decide

theorem less_sub : ∀ p q, lessB p q = true → p = true ∨ q = true := by decide

theorem set_len_le (want : Bool → Bool → Bool) (a b : List Span) : (setL want a b).length ≤ a.length + b.length := by
  unfold setL
  split
  · exact setF_len want a b
  · exact Nat.zero_le _

set_option maxRecDepth 100000 in
set_option maxHeartbeats 4000000 in
theorem lawSpanSets07 (A B : Option Addr) (c d : Nat) (a b : List Span) (t : Int) (w : World) (hla : a.length ≤ 140737488355328) (hlb : b.length ≤ 140737488355328) (hA : R cSpan 0 w A a) (hB : R cSpan 0 w B b) :
    Calls Try.prog 3 #[.slice A a.length c, .slice B b.length d, .int .u32 t] w fun e w' => e = .returned (.bool true) ∧ Bl w w' := by
  have hal := hide (lawAlive07 w)
  by_cases h1 : (500 : Int) < (a.length : Int)
  · go_enter Try.func3, Try.ntmps3
    go_wp2_with fail
    refine hal.out.mono ?_
    rintro e w1 ⟨rfl, hb1⟩
    go_wp2_with fail
    go_ret
    exact ⟨rfl, hb1⟩
  by_cases h2 : (500 : Int) < (b.length : Int)
  · go_enter Try.func3, Try.ntmps3
    go_wp2_with fail
    refine hal.out.mono ?_
    rintro e w1 ⟨rfl, hb1⟩
    go_wp2_with fail
    go_ret
    exact ⟨rfl, hb1⟩
  have ham : a.length ≤ maxLen := by unfold maxLen; omega
  have hbm : b.length ≤ maxLen := by unfold maxLen; omega
  have hjoin := fun V (hv : Bl w V) => spanJoin A B c d a b V ham hbm (hA.bl hv) (hB.bl hv)
  have hless := fun V (hv : Bl w V) => spanLess A B c d a b V ham hbm (hA.bl hv) (hB.bl hv)
  have hha := hide fun V (hv : Bl w V) => spanHas A c a t V ham (hA.bl hv)
  have hhb := hide fun V (hv : Bl w V) => spanHas B d b t V hbm (hB.bl hv)
  cases hm : spansMay a && spansMay b
  · obtain ⟨n1, l1⟩ := set_bad orB hm
    obtain ⟨n2, l2⟩ := set_bad lessB hm
    simp only [n1, l1] at hjoin
    simp only [n2, l2] at hless
    replace hjoin := hide hjoin
    replace hless := hide hless
    clear hm n1 n2 l1 l2
    go_enter Try.func3, Try.ntmps3
    go_wp2_with fail
    refine hal.out.mono ?_
    rintro e w1 ⟨rfl, hb1⟩
    go_wp2_with fail
    refine (hjoin.out _ hb1).mono ?_
    rintro e w2 ⟨X, x, rfl, x1, x2, hX, hb2⟩
    go_wp2_with fail
    refine (hless.out _ (hb1.trans hb2)).mono ?_
    rintro e w3 ⟨Y, y, rfl, y1, y2, hY, hb3⟩
    go_wp2_with fail
    go_ret
    exact ⟨rfl, (hb1.trans hb2).trans hb3⟩
  · rw [Bool.and_eq_true] at hm
    have g1 := set_good (want := orB) rfl hm.1 hm.2 (by omega) or_sub
    have g2 := set_good (want := lessB) rfl hm.1 hm.2 (by omega) less_sub
    have e1 : spanHasB (setF orB a b) t = (spanHasB a t || spanHasB b t) := by
      unfold spanHasB
      rw [g1.may, g1.has, hm.1, hm.2]
      simp [orB]
    have e2 : spanHasB (setF lessB a b) t = (spanHasB a t && !spanHasB b t) := by
      unfold spanHasB
      rw [g2.may, g2.has, hm.1, hm.2]
      simp [lessB]
    simp only [g1.n, g1.l] at hjoin
    simp only [g2.n, g2.l] at hless
    have m1 := g1.may
    have m2 := g2.may
    generalize setF orB a b = X0 at *
    generalize setF lessB a b = Y0 at *
    clear g1 g2 hm
    replace hjoin := hide hjoin
    replace hless := hide hless
    have hx := hide fun X x V (k : X0.length ≤ maxLen) (hX : R cSpan 0 V X X0) => spanHas X x X0 t V k hX
    have hy := hide fun Y y V (k : Y0.length ≤ maxLen) (hY : R cSpan 0 V Y Y0) => spanHas Y y Y0 t V k hY
    have hcx := hide fun X x V (k : X0.length ≤ maxLen) (hX : R cSpan 0 V X X0) => spanCheck X x X0 V k hX
    have hcy := hide fun Y y V (k : Y0.length ≤ maxLen) (hY : R cSpan 0 V Y Y0) => spanCheck Y y Y0 V k hY
    rw [e1] at hx
    rw [e2] at hy
    rw [m1] at hcx
    rw [m2] at hcy
    clear e1 e2 m1 m2
    generalize spanHasB a t = p at *
    generalize spanHasB b t = q at *
    go_enter Try.func3, Try.ntmps3
    go_wp2_with fail
    refine hal.out.mono ?_
    rintro e w1 ⟨rfl, hb1⟩
    go_wp2_with fail
    refine (hjoin.out _ hb1).mono ?_
    rintro e w2 ⟨X, x, rfl, x1, x2, hX, hb2⟩
    have hb02 := hb1.trans hb2
    go_wp2_with fail
    refine (hless.out _ hb02).mono ?_
    rintro e w3 ⟨Y, y, rfl, y1, y2, hY, hb3⟩
    have hb03 := hb02.trans hb3
    go_wp2_with fail
    refine (hx.out X x _ (Nat.le_trans x1 x2) (hX.zero.bl hb3)).mono ?_
    rintro e w4 ⟨rfl, hb4⟩
    have hb04 := hb03.trans hb4
    cases p
    · cases q
      all_goals
        go_wp2_with fail
        refine (hha.out _ hb04).mono ?_
        rintro e w5 ⟨rfl, hb5⟩
        have hb05 := hb04.trans hb5
        go_wp2_with fail
        refine (hhb.out _ hb05).mono ?_
        rintro e w6 ⟨rfl, hb6⟩
        have hb06 := hb05.trans hb6
        go_wp2_with fail
        refine (hy.out Y y _ (Nat.le_trans y1 y2) (hY.zero.bl (hb4.trans (hb5.trans hb6)))).mono ?_
        rintro e w7 ⟨rfl, hb7⟩
        have hb07 := hb06.trans hb7
        go_wp2_with fail
        refine (hha.out _ hb07).mono ?_
        rintro e w8 ⟨rfl, hb8⟩
        have hb38 := hb4.trans ((hb5.trans hb6).trans (hb7.trans hb8))
        clear hb4 hb5 hb6 hb7 hb8
        go_wp2_with fail
        refine (hcx.out X x _ (Nat.le_trans x1 x2) (hX.zero.bl (hb3.trans hb38))).mono ?_
        rintro e w9 ⟨rfl, hba⟩
        go_wp2_with fail
        refine (hcy.out Y y _ (Nat.le_trans y1 y2) (hY.zero.bl (hb38.trans hba))).mono ?_
        rintro e w10 ⟨rfl, hbb⟩
        go_wp2_with fail
        go_ret
        exact ⟨rfl, hb03.trans (hb38.trans (hba.trans hbb))⟩
    · cases q
      all_goals
        go_wp2_with fail
        refine (hha.out _ hb04).mono ?_
        rintro e w5 ⟨rfl, hb5⟩
        have hb05 := hb04.trans hb5
        go_wp2_with fail
        refine (hy.out Y y _ (Nat.le_trans y1 y2) (hY.zero.bl (hb4.trans hb5))).mono ?_
        rintro e w7 ⟨rfl, hb7⟩
        have hb07 := hb05.trans hb7
        go_wp2_with fail
        refine (hha.out _ hb07).mono ?_
        rintro e w8 ⟨rfl, hb8⟩
        have hb08 := hb07.trans hb8
        go_wp2_with fail
        refine (hhb.out _ hb08).mono ?_
        rintro e w9 ⟨rfl, hb9⟩
        have hb38 := hb4.trans ((hb5.trans hb7).trans (hb8.trans hb9))
        clear hb4 hb5 hb7 hb8 hb9
        go_wp2_with fail
        refine (hcx.out X x _ (Nat.le_trans x1 x2) (hX.zero.bl (hb3.trans hb38))).mono ?_
        rintro e w10 ⟨rfl, hba⟩
        go_wp2_with fail
        refine (hcy.out Y y _ (Nat.le_trans y1 y2) (hY.zero.bl (hb38.trans hba))).mono ?_
        rintro e w11 ⟨rfl, hbb⟩
        go_wp2_with fail
        go_ret
        exact ⟨rfl, hb03.trans (hb38.trans (hba.trans hbb))⟩
end Go.Proofs.Ytiimpmdnkjhcoaa

/-
  Plain: joins of clocks, how many stamps they have and the greatest time. The walk of ClockJoins.
-/
import Derived.Test.YtkolimhkfiebeaaLawB
import Derived.Test.YtkolimhkfiebeaaGood
import Derived.Test.YtkolimhkfiebeaaSpanLaw2
namespace Go.Proofs.Ytkolimhkfiebeaa
open Go.RowKit

def sumK (f : Nat → Int) : Nat → Int
  | 0 => 0
  | k + 1 => sumK f k + f k

theorem sumK_add {f g h : Nat → Int} : ∀ k, (∀ r, r < k → h r = f r + g r) → sumK h k = sumK f k + sumK g k
  | 0, _ => by simp [sumK]
  | k + 1, e => by
    unfold sumK
    rw [sumK_add k fun r hr => e r (by omega), e k (by omega)]
    omega

theorem clockMany_append (l m : List Times) : clockMany (l ++ m) = clockMany l + clockMany m := by
  induction l with
  | nil => show _ = 0 + _; rw [Int.zero_add]; rfl
  | cons x l ih =>
    show spansMany x.s + clockMany (l ++ m) = spansMany x.s + clockMany l + clockMany m
    omega

theorem clockMany_each (Ls : Nat → List Span) : ∀ k, clockMany (eachL Ls k) = sumK (fun r => spansMany (Ls r)) k
  | 0 => rfl
  | k + 1 => by
    unfold eachL sumK
    rw [clockMany_append, clockMany_each Ls k]
    congr 1
    by_cases h : (Ls k).length = 0
    · rw [if_pos h, List.eq_nil_of_length_eq_zero h]
      rfl
    · rw [if_neg h]
      show spansMany (Ls k) + 0 = _
      omega

theorem clockCount_sum {l : List Times} (h : clockMay l = true) : clockCount l = sumK (fun r => spansMany (firstOf l r)) 8 := by
  unfold clockCount
  rw [if_pos h]
  exact (congrArg clockMany (may_each h)).trans (clockMany_each _ 8)

theorem topS_iff {m : Int} : ∀ (l : List Span) (n : Int), topS n l ≤ m ↔ n ≤ m ∧ ∀ x ∈ l, x.t ≤ m
  | [], n => by simp [topS]
  | x :: l, n => by
    show topS (max n x.t) l ≤ m ↔ _
    rw [topS_iff l]
    simp only [List.mem_cons, forall_eq_or_imp]
    constructor
    · rintro ⟨h1, h2⟩
      exact ⟨by omega, by omega, h2⟩
    · rintro ⟨h1, h2, h3⟩
      exact ⟨by omega, h3⟩

theorem topT_append (n : Int) (l m : List Times) : topT n (l ++ m) = topT (topT n l) m := by
  unfold topT
  rw [List.foldl_append]

theorem topT_each {m : Int} (Ls : Nat → List Span) (n : Int) : ∀ k, topT n (eachL Ls k) ≤ m ↔ n ≤ m ∧ ∀ r, r < k → ∀ x ∈ Ls r, x.t ≤ m
  | 0 => by
    show n ≤ m ↔ _
    simp
  | k + 1 => by
    unfold eachL
    rw [topT_append]
    have e : topT (topT n (eachL Ls k)) (if (Ls k).length = 0 then [] else [⟨k, Ls k⟩]) = topS (topT n (eachL Ls k)) (Ls k) := by
      by_cases h : (Ls k).length = 0
      · rw [if_pos h, List.eq_nil_of_length_eq_zero h]
        rfl
      · rw [if_neg h]
        rfl
    rw [e, topS_iff, topT_each Ls n k]
    constructor
    · rintro ⟨⟨h1, h2⟩, h3⟩
      refine ⟨h1, fun r hr x hx => ?_⟩
      by_cases hk : r = k
      · subst hk
        exact h3 x hx
      · exact h2 r (by omega) x hx
    · rintro ⟨h1, h2⟩
      exact ⟨⟨h1, fun r hr => h2 r (by omega)⟩, h2 k (by omega)⟩

theorem top_have {l : List Span} {a m : Int} (h : Can a l) : (∀ x ∈ l, x.t ≤ m) ↔ ∀ u, spansHave l u = true → u ≤ m := by
  constructor
  · intro k u hu
    obtain ⟨x, hx, _, h2⟩ := have_iff.1 hu
    have := k x hx
    omega
  · intro k x hx
    exact k x.t (have_iff.2 ⟨x, hx, (h.mem hx).2, Int.le_refl _⟩)

theorem clockTop_iff {l : List Times} {m : Int} (h : clockMay l = true) : clockTopF l ≤ m ↔ 0 ≤ m ∧ ∀ r : Nat, r < 8 → ∀ u, spansHave (firstOf l r) u = true → u ≤ m := by
  unfold clockTopF
  rw [if_pos h]
  conv => lhs; rw [may_each h]
  rw [topT_each]
  refine and_congr Iff.rfl (forall_congr' fun r => forall_congr' fun hr => ?_)
  exact top_have (may_can (first_may h r)).1

theorem CGood.first {want : Bool → Bool → Bool} {a b L : List Times} (h : CGood want a b L) (ha : clockMay a = true) (hb : clockMay b = true) (hw : want false false = false) (hl : ∀ r : Nat, r < 8 → (firstOf a r).length + (firstOf b r).length ≤ 1024) (hs : ∀ p q, want p q = true → p = true ∨ q = true) (r : Nat) (hr : r < 8) : firstOf L r = setF want (firstOf a r) (firstOf b r) := by
  have h1 := (h.fit r hr).l
  have h2 := (set_good hw (first_may ha r) (first_may hb r) (hl r hr) hs).l
  exact h1.symm.trans h2

theorem CGood.same {want : Bool → Bool → Bool} {a b L M : List Times} (h : CGood want a b L) (ha : clockMay a = true) (hb : clockMay b = true) (hw : want false false = false) (hl : ∀ r : Nat, r < 8 → (firstOf a r).length + (firstOf b r).length ≤ 1024) (hs : ∀ p q, want p q = true → p = true ∨ q = true)
    (hM : clockMay M = true) (e : ∀ r : Nat, r < 8 → setF want (firstOf a r) (firstOf b r) = firstOf M r) : cSetL want a b = M ∧ cSetN want a b = 0 := by
  refine ⟨h.l.trans (clock_ext h.may hM fun r hr => ?_), h.n⟩
  rw [h.first ha hb hw hl hs r hr, e r hr]

/-- All that ClockJoins asks. -/
structure CJoinsOk (a b X L : List Times) : Prop where
  x : cSetL orB a b = X ∧ cSetN orB a b = 0
  y : cSetL orB b a = X ∧ cSetN orB b a = 0
  z : cSetL orB X b = X ∧ cSetN orB X b = 0
  l : cSetL lessB a b = L ∧ cSetN lessB a b = 0
  m : cSetL orB L b = X ∧ cSetN orB L b = 0
  c : clockCount X = clockCount L + clockCount b
  t : clockTopF X = max (clockTopF a) (clockTopF b)
  lx : X.length ≤ 8
  ll : L.length ≤ 8
  la : 0 ≤ clockTopF a ∧ clockTopF a ≤ 1073741824
  lb : 0 ≤ clockTopF b ∧ clockTopF b ≤ 1073741824
  cl : 0 ≤ clockCount L ∧ clockCount L ≤ 10995116277760
  cb : 0 ≤ clockCount b ∧ clockCount b ≤ 10995116277760

theorem sumK_le {f : Nat → Int} {m : Int} : ∀ k, (∀ r, r < k → 0 ≤ f r ∧ f r ≤ m) → 0 ≤ sumK f k ∧ sumK f k ≤ k * m
  | 0, _ => by simp [sumK]
  | k + 1, h => by
    have h1 := sumK_le k fun r hr => h r (by omega)
    have h2 := h k (by omega)
    unfold sumK
    have e : ((k + 1 : Nat) : Int) * m = k * m + m := by
      rw [Int.natCast_add, Int.add_mul]
      simp
    omega

theorem count_cl {l : List Times} (h : clockMay l = true) : 0 ≤ clockCount l ∧ clockCount l ≤ 10995116277760 := by
  rw [clockCount_sum h]
  have := sumK_le (f := fun r => spansMany (firstOf l r)) (m := 1099511627776) 8 fun r _ => by
    have h1 := count_le (firstOf l r)
    unfold spansCount at h1
    rw [if_pos (first_may h r)] at h1
    exact h1
  omega

theorem top_cl {l : List Times} (h : clockMay l = true) : 0 ≤ clockTopF l ∧ clockTopF l ≤ 1073741824 := by
  constructor
  · exact ((clockTop_iff h).1 (Int.le_refl _)).1
  · refine (clockTop_iff h).2 ⟨by omega, fun r _ => ?_⟩
    obtain ⟨h1, h2, _⟩ := may_can (first_may h r)
    exact (top_have h1).1 h2

theorem cjoins_ok {a b : List Times} (ha : clockMay a = true) (hb : clockMay b = true) (fa : few a) (fb : few b) : CJoinsOk a b (cSetL orB a b) (cSetL lessB a b) := by
  have la := fun r : Nat => first_le fa.2 r
  have lb := fun r : Nat => first_le fb.2 r
  have l1 : ∀ r : Nat, r < 8 → (firstOf a r).length + (firstOf b r).length ≤ 1024 := fun r _ => by have := la r; have := lb r; omega
  have x := cset_good (want := orB) rfl ha hb l1 or_sub
  have l := cset_good (want := lessB) rfl ha hb l1 less_sub
  have ex := fun r hr => x.first ha hb rfl l1 or_sub r hr
  have el := fun r hr => l.first ha hb rfl l1 less_sub r hr
  have hX : ∃ X, X = cSetL orB a b := ⟨_, rfl⟩
  have hL : ∃ L, L = cSetL lessB a b := ⟨_, rfl⟩
  obtain ⟨X, hX⟩ := hX
  obtain ⟨L, hL⟩ := hL
  rw [← hX] at x ex ⊢
  rw [← hL] at l el ⊢
  have hj : ∀ r : Nat, r < 8 → JoinsOk (firstOf a r) (firstOf b r) (firstOf X r) (firstOf L r) := fun r hr => by
    rw [ex r hr, el r hr]
    exact joins_ok (first_may ha r) (first_may hb r) (la r) (lb r)
  have lX : ∀ r : Nat, r < 8 → (firstOf X r).length ≤ 600 := fun r hr => by have := (hj r hr).x.len; have := la r; have := lb r; omega
  have lL : ∀ r : Nat, r < 8 → (firstOf L r).length ≤ 600 := fun r hr => by have := (hj r hr).l.len; have := la r; have := lb r; omega
  have l2 : ∀ r : Nat, r < 8 → (firstOf b r).length + (firstOf a r).length ≤ 1024 := fun r _ => by have := la r; have := lb r; omega
  have l3 : ∀ r : Nat, r < 8 → (firstOf X r).length + (firstOf b r).length ≤ 1024 := fun r hr => by have := lX r hr; have := lb r; omega
  have l4 : ∀ r : Nat, r < 8 → (firstOf L r).length + (firstOf b r).length ≤ 1024 := fun r hr => by have := lL r hr; have := lb r; omega
  have y := cset_good (want := orB) rfl hb ha l2 or_sub
  have z := cset_good (want := orB) rfl x.may hb l3 or_sub
  have m := cset_good (want := orB) rfl l.may hb l4 or_sub
  have gs : ∀ {want : Bool → Bool → Bool} {p q M : List Span}, spansMay p = true → spansMay q = true → want false false = false → (∀ p q, want p q = true → p = true ∨ q = true) → p.length + q.length ≤ 1024 → Good want p q M → setF want p q = M := fun h1 h2 h3 h4 h5 g => ((set_good h3 h1 h2 h5 h4).l.symm.trans g.l)
  refine ⟨⟨hX.symm, x.n⟩, y.same hb ha rfl l2 or_sub x.may fun r hr => gs (first_may hb r) (first_may ha r) rfl or_sub (l2 r hr) (hj r hr).y, z.same x.may hb rfl l3 or_sub x.may fun r hr => gs (first_may x.may r) (first_may hb r) rfl or_sub (l3 r hr) (hj r hr).z, ⟨hL.symm, l.n⟩,
    m.same l.may hb rfl l4 or_sub x.may fun r hr => gs (first_may l.may r) (first_may hb r) rfl or_sub (l4 r hr) (hj r hr).m, ?_, ?_, x.len, l.len, top_cl ha, top_cl hb, count_cl l.may, count_cl hb⟩
  · rw [clockCount_sum x.may, clockCount_sum l.may, clockCount_sum hb]
    refine sumK_add 8 fun r hr => ?_
    have h := (hj r hr).c
    unfold spansCount at h
    rw [if_pos (first_may x.may r), if_pos (first_may l.may r), if_pos (first_may hb r)] at h
    exact h
  · have h : ∀ m : Int, clockTopF X ≤ m ↔ clockTopF a ≤ m ∧ clockTopF b ≤ m := fun m => by
      rw [clockTop_iff x.may, clockTop_iff ha, clockTop_iff hb]
      have e : ∀ r : Nat, r < 8 → ∀ u, spansHave (firstOf X r) u = (spansHave (firstOf a r) u || spansHave (firstOf b r) u) := fun r hr u => (hj r hr).x.has u
      constructor
      · rintro ⟨h1, h2⟩
        exact ⟨⟨h1, fun r hr u hu => h2 r hr u (by rw [e r hr, hu]; rfl)⟩, h1, fun r hr u hu => h2 r hr u (by rw [e r hr, hu, Bool.or_true])⟩
      · rintro ⟨⟨h1, h2⟩, _, h3⟩
        refine ⟨h1, fun r hr u hu => ?_⟩
        rw [e r hr, Bool.or_eq_true] at hu
        rcases hu with hu | hu
        · exact h2 r hr u hu
        · exact h3 r hr u hu
    have h1 := (h (clockTopF X)).1 (Int.le_refl _)
    have h2 := (h (max (clockTopF a) (clockTopF b))).2 ⟨by omega, by omega⟩
    omega

set_option maxRecDepth 100000 in
set_option maxHeartbeats 8000000 in
theorem lawClockJoins08 (A B : Option Addr) (c d : Nat) (a b : List Times) (w : World) (hla : a.length ≤ 140737488355328) (hlb : b.length ≤ 140737488355328) (hsa : ∀ y ∈ a, y.s.length ≤ 140737488355328) (hsb : ∀ y ∈ b, y.s.length ≤ 140737488355328)
    (hA : R cTimes 0 w A a) (hB : R cTimes 0 w B b) :
    Calls Try.prog 3 #[.slice A a.length c, .slice B b.length d] w fun e w' => e = .returned (.bool true) ∧ Bl w w' := by
  have ham : a.length ≤ maxLen := by unfold maxLen; omega
  have hbm : b.length ≤ maxLen := by unfold maxLen; omega
  have hga := hide fun V (hv : Bl w V) => refGreat08 A c a V hla hsa (hA.bl hv)
  have hgb := hide fun V (hv : Bl w V) => refGreat08 B d b V hlb hsb (hB.bl hv)
  have hca := fun V (hv : Bl w V) => clockCheck A c a V ham (hA.bl hv)
  have hcb := fun V (hv : Bl w V) => clockCheck B d b V hbm (hB.bl hv)
  have hkb := fun V (hv : Bl w V) => clockCountC B d b V hbm (hB.bl hv)
  have hta := fun V (hv : Bl w V) => clockTop A c a V ham (hA.bl hv)
  have htb := fun V (hv : Bl w V) => clockTop B d b V hbm (hB.bl hv)
  cases hma : clockMay a
  · rw [hma] at hca
    replace hca := hide hca
    clear hma hkb hta htb
    go_enter Try.func3, Try.ntmps3
    go_wp2_with fail
    refine (lawAlive08 _).mono ?_
    rintro e w1 ⟨rfl, hb1⟩
    go_wp2_with fail
    refine (hga.out _ (by repeat first | assumption | exact Bl.refl _ | refine Bl.alloc ?_ _ | refine Bl.trans ?_ (by assumption))).mono ?_
    rintro e w2 ⟨q1, rfl, hfa, hb2⟩
    clear hfa
    cases q1
    rotate_left
    · go_wp2_with fail
      go_ret
      exact ⟨rfl, (by repeat first | assumption | exact Bl.refl _ | refine Bl.alloc ?_ _ | refine Bl.trans ?_ (by assumption))⟩
    go_wp2_with fail
    refine (hgb.out _ (by repeat first | assumption | exact Bl.refl _ | refine Bl.alloc ?_ _ | refine Bl.trans ?_ (by assumption))).mono ?_
    rintro e w3 ⟨q2, rfl, hfb, hb3⟩
    clear hfb
    cases q2
    rotate_left
    · go_wp2_with fail
      go_ret
      exact ⟨rfl, (by repeat first | assumption | exact Bl.refl _ | refine Bl.alloc ?_ _ | refine Bl.trans ?_ (by assumption))⟩
    go_wp2_with fail
    refine (hca.out _ (by repeat first | assumption | exact Bl.refl _ | refine Bl.alloc ?_ _ | refine Bl.trans ?_ (by assumption))).mono ?_
    rintro e w4 ⟨rfl, hb4⟩
    rw [okOr_false]
    go_wp2_with fail
    go_ret
    exact ⟨rfl, (by repeat first | assumption | exact Bl.refl _ | refine Bl.alloc ?_ _ | refine Bl.trans ?_ (by assumption))⟩
  cases hmb : clockMay b
  · rw [hma] at hca
    rw [hmb] at hcb
    replace hca := hide hca
    replace hcb := hide hcb
    clear hma hmb hkb hta htb
    go_enter Try.func3, Try.ntmps3
    go_wp2_with fail
    refine (lawAlive08 _).mono ?_
    rintro e w1 ⟨rfl, hb1⟩
    go_wp2_with fail
    refine (hga.out _ (by repeat first | assumption | exact Bl.refl _ | refine Bl.alloc ?_ _ | refine Bl.trans ?_ (by assumption))).mono ?_
    rintro e w2 ⟨q1, rfl, hfa, hb2⟩
    clear hfa
    cases q1
    rotate_left
    · go_wp2_with fail
      go_ret
      exact ⟨rfl, (by repeat first | assumption | exact Bl.refl _ | refine Bl.alloc ?_ _ | refine Bl.trans ?_ (by assumption))⟩
    go_wp2_with fail
    refine (hgb.out _ (by repeat first | assumption | exact Bl.refl _ | refine Bl.alloc ?_ _ | refine Bl.trans ?_ (by assumption))).mono ?_
    rintro e w3 ⟨q2, rfl, hfb, hb3⟩
    clear hfb
    cases q2
    rotate_left
    · go_wp2_with fail
      go_ret
      exact ⟨rfl, (by repeat first | assumption | exact Bl.refl _ | refine Bl.alloc ?_ _ | refine Bl.trans ?_ (by assumption))⟩
    go_wp2_with fail
    refine (hca.out _ (by repeat first | assumption | exact Bl.refl _ | refine Bl.alloc ?_ _ | refine Bl.trans ?_ (by assumption))).mono ?_
    rintro e w4 ⟨rfl, hb4⟩
    rw [okOr_true]
    go_wp2_with fail
    refine (hcb.out _ (by repeat first | assumption | exact Bl.refl _ | refine Bl.alloc ?_ _ | refine Bl.trans ?_ (by assumption))).mono ?_
    rintro e w5 ⟨rfl, hb5⟩
    rw [okOr_false]
    go_wp2_with fail
    go_ret
    exact ⟨rfl, (by repeat first | assumption | exact Bl.refl _ | refine Bl.alloc ?_ _ | refine Bl.trans ?_ (by assumption))⟩
  rw [hma] at hca
  rw [hmb] at hcb
  have hok := hide fun (fa : few a) (fb : few b) => cjoins_ok hma hmb fa fb
  generalize cSetL orB a b = X0 at hok
  generalize cSetL lessB a b = L0 at hok
  clear hma hmb
  replace hca := hide hca
  replace hcb := hide hcb
  have jx := hide fun V (hv : Bl w V) => clockJoin A B c d a b V hla hlb (hA.bl hv) (hB.bl hv)
  have jy := hide fun V (hv : Bl w V) => clockJoin B A d c b a V hlb hla (hB.bl hv) (hA.bl hv)
  have jl := hide fun V (hv : Bl w V) => clockLess A B c d a b V hla hlb (hA.bl hv) (hB.bl hv)
  replace hkb := hide hkb
  replace hta := hide hta
  replace htb := hide htb
  go_enter Try.func3, Try.ntmps3
  go_wp2_with fail
  refine (lawAlive08 _).mono ?_
  rintro e w1 ⟨rfl, hb1⟩
  go_wp2_with fail
  refine (hga.out _ (by repeat first | assumption | exact Bl.refl _ | refine Bl.alloc ?_ _ | refine Bl.trans ?_ (by assumption))).mono ?_
  rintro e w2 ⟨q1, rfl, hfa, hb2⟩
  cases q1
  rotate_left
  · clear hfa
    go_wp2_with fail
    go_ret
    exact ⟨rfl, (by repeat first | assumption | exact Bl.refl _ | refine Bl.alloc ?_ _ | refine Bl.trans ?_ (by assumption))⟩
  replace hfa := hide (hfa rfl)
  go_wp2_with fail
  refine (hgb.out _ (by repeat first | assumption | exact Bl.refl _ | refine Bl.alloc ?_ _ | refine Bl.trans ?_ (by assumption))).mono ?_
  rintro e w3 ⟨q2, rfl, hfb, hb3⟩
  cases q2
  rotate_left
  · clear hfb
    go_wp2_with fail
    go_ret
    exact ⟨rfl, (by repeat first | assumption | exact Bl.refl _ | refine Bl.alloc ?_ _ | refine Bl.trans ?_ (by assumption))⟩
  replace hfb := hide (hfb rfl)
  go_wp2_with fail
  refine (hca.out _ (by repeat first | assumption | exact Bl.refl _ | refine Bl.alloc ?_ _ | refine Bl.trans ?_ (by assumption))).mono ?_
  rintro e w4 ⟨rfl, hb4⟩
  rw [okOr_true]
  go_wp2_with fail
  refine (hcb.out _ (by repeat first | assumption | exact Bl.refl _ | refine Bl.alloc ?_ _ | refine Bl.trans ?_ (by assumption))).mono ?_
  rintro e w5 ⟨rfl, hb5⟩
  rw [okOr_true]
  have g := hok.out hfa.out hfb.out
  have hb05 : Bl w w5 := (by repeat first | assumption | exact Bl.refl _ | refine Bl.alloc ?_ _ | refine Bl.trans ?_ (by assumption))
  clear hfa hfb hok hga hgb hb1 hb2 hb3 hb4 hb5 hca hcb
  have lx := g.lx
  have ll := g.ll
  have jz := fun X x V (hX : R cTimes 0 V X X0) (hv : Bl w V) => clockJoin X B x d X0 b V (by omega) hlb hX (hB.bl hv)
  have jm := fun X x V (hX : R cTimes 0 V X L0) (hv : Bl w V) => clockJoin X B x d L0 b V (by omega) hlb hX (hB.bl hv)
  have kx := fun X x V (hX : R cTimes 0 V X X0) => clockCountC X x X0 V (by unfold maxLen; omega) hX
  have kl := fun X x V (hX : R cTimes 0 V X L0) => clockCountC X x L0 V (by unfold maxLen; omega) hX
  have tx := fun X x V (hX : R cTimes 0 V X X0) => clockTop X x X0 V (by unfold maxLen; omega) hX
  have sx := hide fun X x Y y V (hX : R cTimes 0 V X X0) (hY : R cTimes 0 V Y X0) => clockSameSelf X0 (c := x) (d := y) (by unfold maxLen; omega) hX hY
  have jx := jx.out
  have jy := jy.out
  have jl := jl.out
  rw [g.x.1, g.x.2] at jx
  rw [g.y.1, g.y.2] at jy
  rw [g.z.1, g.z.2] at jz
  rw [g.l.1, g.l.2] at jl
  rw [g.m.1, g.m.2] at jm
  rw [g.c] at kx
  rw [g.t] at tx
  have q1 := g.cl
  have q2 := g.cb
  have q3 := g.la
  have q4 := g.lb
  have hkb := hkb.out
  have hta := hta.out
  have htb := htb.out
  clear g
  generalize clockCount L0 = u at *
  generalize clockCount b = v at *
  generalize clockTopF a = p at *
  generalize clockTopF b = q at *
  have e1 : IntKind.i64.wrap (u + v) = u + v := IntWalk.i64_in _ (by omega)
  have e2 : ((u + v) == (u + v)) = true := beq_self_eq_true _
  have e3 : (max p q == max p q) = true := beq_self_eq_true _
  clear q1 q2 q3 q4 lx ll
  replace jx := hide jx
  replace jy := hide jy
  replace jz := hide jz
  replace jl := hide jl
  replace jm := hide jm
  replace kx := hide kx
  replace kl := hide kl
  replace tx := hide tx
  replace hkb := hide hkb
  replace hta := hide hta
  replace htb := hide htb
  go_wp2_with fail
  refine (jx.out _ (by repeat first | assumption | exact Bl.refl _ | refine Bl.alloc ?_ _ | refine Bl.trans ?_ (by assumption))).mono ?_
  rintro e w6 ⟨X, x, rfl, x1, x2, hX, hb6⟩
  have hb06 := hb05.trans hb6
  go_wp2_with fail
  refine (jy.out _ hb06).mono ?_
  rintro e w7 ⟨Y, y, rfl, y1, y2, hY, hb7⟩
  have hb07 := hb06.trans hb7
  go_wp2_with fail
  refine (jz.out X x _ (hX.zero.bl hb7) hb07).mono ?_
  rintro e w8 ⟨Z, z, rfl, z1, z2, hZ, hb8⟩
  have hb08 := hb07.trans hb8
  go_wp2_with fail
  refine (jl.out _ hb08).mono ?_
  rintro e w9 ⟨L, l, rfl, l1, l2, hL, hb9⟩
  have hb09 := hb08.trans hb9
  go_wp2_with fail
  refine (jm.out L l _ hL.zero hb09).mono ?_
  rintro e w10 ⟨M, m, rfl, m1, m2, hM, hb10⟩
  have hb010 := hb09.trans hb10
  have X9 := hX.zero.bl (hb7.trans (hb8.trans (hb9.trans hb10)))
  have Y9 := hY.zero.bl (hb8.trans (hb9.trans hb10))
  have Z9 := hZ.zero.bl (hb9.trans hb10)
  have L9 := hL.zero.bl hb10
  have M9 := hM.zero
  clear hX hY hZ hL hM hb6 hb7 hb8 hb9 hb10 hb05 hb06 hb07 hb08 hb09
  go_wp2_with fail
  refine (sx.out X x Y y _ X9 Y9).mono ?_
  rintro e w11 ⟨rfl, hc1⟩
  go_wp2_with fail
  refine (sx.out X x Z z _ (X9.bl hc1) (Z9.bl hc1)).mono ?_
  rintro e w12 ⟨rfl, hc2'⟩
  have hc2 := hc1.trans hc2'
  go_wp2_with fail
  refine (sx.out M m X x _ (M9.bl hc2) (X9.bl hc2)).mono ?_
  rintro e w13 ⟨rfl, hc3'⟩
  have hc3 := hc2.trans hc3'
  go_wp2_with fail
  refine (kx.out X x _ (X9.bl hc3)).mono ?_
  rintro e w14 ⟨rfl, hc4'⟩
  have hc4 := hc3.trans hc4'
  go_wp2_with fail
  refine (kl.out L l _ (L9.bl hc4)).mono ?_
  rintro e w15 ⟨rfl, hc5'⟩
  have hc5 := hc4.trans hc5'
  go_wp2_with fail
  refine (hkb.out _ (hb010.trans hc5)).mono ?_
  rintro e w16 ⟨rfl, hc6'⟩
  have hc6 := hc5.trans hc6'
  go_wp2_with fail
  refine (tx.out X x _ (X9.bl hc6)).mono ?_
  rintro e w17 ⟨rfl, hc7'⟩
  have hc7 := hc6.trans hc7'
  go_wp2_with fail
  refine (hta.out _ (hb010.trans hc7)).mono ?_
  rintro e w18 ⟨rfl, hc8'⟩
  have hc8 := hc7.trans hc8'
  go_wp2_with fail
  refine (htb.out _ (hb010.trans hc8)).mono ?_
  rintro e w19 ⟨rfl, hc9'⟩
  have hc9 := hc8.trans hc9'
  go_wp2_with fail
  go_ret
  exact ⟨rfl, hb010.trans hc9⟩
end Go.Proofs.Ytkolimhkfiebeaa

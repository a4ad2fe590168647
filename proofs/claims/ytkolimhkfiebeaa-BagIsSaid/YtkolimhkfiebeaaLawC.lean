/-
  Plain: what span.Join, span.Less answer, as sets of times; the same of clocks.
  The walks of SpanSets, SpanJoins, SpanAdds; what they say of sets of times.
  The walks of SpanJoins, SpanAdds; what they say of sets of times.
  Plain: joins of clocks, how many stamps they have and the greatest time. The walk of ClockJoins.
  Plain: the stamps of a clock, and the clock of these. The walk of ClockIds.
-/
import Derived.Test.YtkolimhkfiebeaaClkB
import Derived.Test.YtkolimhkfiebeaaLawB
namespace Go.Proofs.Ytkolimhkfiebeaa
open Go.RowKit

/-- What span.set answers, if both may be and are not long. -/
structure Good (want : Bool → Bool → Bool) (a b L : List Span) : Prop where
  n : setN want a b = 0
  l : setL want a b = L
  may : spansMay L = true
  can : Can 1 L
  top : ∀ x ∈ L, x.t ≤ 1073741824
  has : ∀ u, spansHave L u = want (spansHave a u) (spansHave b u)
  len : L.length ≤ a.length + b.length

theorem set_good {want : Bool → Bool → Bool} (hw : want false false = false) {a b : List Span} (ha : spansMay a = true) (hb : spansMay b = true) (hl : a.length + b.length ≤ 1024) (hs : ∀ p q, want p q = true → p = true ∨ q = true) : Good want a b (setF want a b) := by
  obtain ⟨a1, a2, _⟩ := may_can ha
  obtain ⟨b1, b2, _⟩ := may_can hb
  obtain ⟨k1, k2⟩ := setF_ok want hw a1 b1
  have hlen := setF_len want a b
  have ht := top_or k1 (fun u hu => hs _ _ ((k2 u).symm.trans hu)) a2 b2
  have hn : setN want a b = 0 := by unfold setN; rw [ha, hb]; simp; omega
  exact ⟨hn, by unfold setL; rw [if_pos hn], may_of k1 ht (by omega), k1, ht, k2, hlen⟩

theorem set_bad (want : Bool → Bool → Bool) {a b : List Span} (h : (spansMay a && spansMay b) = false) : setN want a b = 8 ∧ setL want a b = [] := by
  have hn : setN want a b = 8 := by unfold setN; rw [h]; rfl
  exact ⟨hn, by unfold setL; rw [hn]; rfl⟩

theorem or_sub : ∀ p q, orB p q = true → p = true ∨ q = true := by decide

theorem less_sub : ∀ p q, lessB p q = true → p = true ∨ q = true := by decide

theorem count_le (l : List Span) : 0 ≤ spansCount l ∧ spansCount l ≤ 1099511627776 := by
  unfold spansCount
  split
  · rename_i h
    obtain ⟨h1, _, h3⟩ := may_can h
    have hf : spansFrom 1 l = true := by unfold spansMay at h; rw [Bool.and_eq_true] at h; exact h.2
    obtain ⟨k1, k2⟩ := spansMany_le l 1 (by omega) hf
    omega
  · omega

theorem count_meas {l : List Span} (h : spansMay l = true) : spansCount l = meas (spansHave l) 1073741825 := by
  obtain ⟨h1, h2, _⟩ := may_can h
  unfold spansCount
  rw [if_pos h]
  exact many_meas h1 (by omega) fun x hx => by have := h2 x hx; omega

theorem Good.is {want : Bool → Bool → Bool} {a b L M : List Span} (h : Good want a b L) (hM : Can 1 M) (_hl : M.length ≤ a.length + b.length) (e : ∀ u, spansHave M u = want (spansHave a u) (spansHave b u)) : Good want a b M := by
  have : L = M := h.can.ext hM fun u => by rw [h.has, e]
  exact this ▸ h

/-! ### Clocks -/

theorem eachN_none {Ns : Nat → Int} : ∀ k, (∀ r, r < k → Ns r = 0) → eachN Ns k = 0
  | 0, _ => rfl
  | k + 1, h => by
    unfold eachN
    rw [eachN_none k fun r hr => h r (by omega), if_pos rfl]
    exact h k (by omega)

/-- What clock.each answers with span's sets, if both may be and are not long. -/
structure CGood (want : Bool → Bool → Bool) (a b L : List Times) : Prop where
  n : cSetN want a b = 0
  l : cSetL want a b = L
  may : clockMay L = true
  fit : ∀ r : Nat, r < 8 → Good want (firstOf a r) (firstOf b r) (firstOf L r)
  len : L.length ≤ 8

theorem cset_good {want : Bool → Bool → Bool} (hw : want false false = false) {a b : List Times} (ha : clockMay a = true) (hb : clockMay b = true) (hl : ∀ r : Nat, r < 8 → (firstOf a r).length + (firstOf b r).length ≤ 1024) (hs : ∀ p q, want p q = true → p = true ∨ q = true) :
    CGood want a b (cSetL want a b) := by
  have hg : ∀ r : Nat, r < 8 → Good want (tabOf a r) (tabOf b r) (setF want (tabOf a r) (tabOf b r)) := fun r hr => by
    rw [tab_first ha, tab_first hb]
    exact set_good hw (first_may ha r) (first_may hb r) (hl r hr) hs
  have hn : eachN (fun r => setN want (tabOf a r) (tabOf b r)) 8 = 0 := eachN_none 8 fun r hr => (hg r hr).n
  have hL : cSetL want a b = eachL (fun r => setL want (tabOf a r) (tabOf b r)) 8 := by
    unfold cSetL outL
    rw [ha, hb, hn]
    rfl
  rw [hL]
  refine ⟨by unfold cSetN; rw [ha, hb]; exact hn, hL, each_may fun r hr => by rw [(hg r hr).l]; exact (hg r hr).may, fun r hr => ?_, eachL_len _ 8⟩
  rw [first_each, if_pos hr, ← tab_first ha, ← tab_first hb]
  have h := hg r hr
  rw [← h.l] at h
  exact h

theorem cset_bad (want : Bool → Bool → Bool) {a b : List Times} (h : (clockMay a && clockMay b) = false) : cSetN want a b = 8 ∧ cSetL want a b = [] := by
  unfold cSetN cSetL
  rw [h]
  exact ⟨rfl, rfl⟩

theorem first_far {l : List Times} (h : clockMay l = true) {r : Int} (hr : ¬ r < 8) : firstOf l r = [] :=
  first_none fun y hy => by
    have := (from_low (last := -1) h y hy).2.1
    omega

theorem has_first {l : List Times} (h : clockMay l = true) (x : Id) : clockHas l x = spansHave (firstOf l x.r) x.t := (clock_in h x).symm

theorem CGood.has {want : Bool → Bool → Bool} (hw : want false false = false) {a b L : List Times} (h : CGood want a b L) (ha : clockMay a = true) (hb : clockMay b = true) (x : Id) (hx : 0 ≤ x.r) : clockHas L x = want (clockHas a x) (clockHas b x) := by
  rw [has_first h.may, has_first ha, has_first hb]
  by_cases hr : x.r < 8
  · obtain ⟨r, hr2⟩ : ∃ r : Nat, x.r = r := ⟨x.r.toNat, by omega⟩
    rw [hr2]
    exact (h.fit r (by omega)).has x.t
  · rw [first_far h.may hr, first_far ha hr, first_far hb hr]
    exact hw.symm

theorem has_one {x y : Id} (hy : idMay y = true) (hyo : y.ok) : clockHas (oneT y) x = decide (x = y) := by
  rw [has_first ((one_may hyo).trans hy)]
  unfold firstOf oneT
  rw [List.find?_cons]
  obtain ⟨xt, xr⟩ := x
  obtain ⟨yt, yr⟩ := y
  dsimp only
  by_cases e : yr = xr
  · subst e
    simp only [decide_true]
    rw [have_one, Bool.eq_iff_iff, inX_iff, decide_eq_true_eq]
    constructor
    · rintro ⟨h1, h2⟩
      dsimp only at h1 h2
      rw [show xt = yt by omega]
    · intro h
      injection h with h _
      subst h
      exact ⟨Int.le_refl _, Int.le_refl _⟩
  · simp only [e, decide_false, List.find?_nil]
    rw [have_nil]
    have : (⟨xt, xr⟩ : Id) ≠ ⟨yt, yr⟩ := fun h => by
      injection h with _ h
      exact e h.symm
    exact (decide_eq_false this).symm

theorem first_le {l : List Times} {n : Nat} (h : ∀ x ∈ l, x.s.length ≤ n) (r : Int) : (firstOf l r).length ≤ n := by
  unfold firstOf
  cases hf : l.find? (fun x => decide (x.r = r)) with
  | none => exact Nat.zero_le _
  | some x => exact h x (List.mem_of_find?_eq_some hf)

theorem first_one (x : Id) (r : Int) : (firstOf (oneT x) r).length ≤ 1 := first_le (l := oneT x) (fun y hy => by
  unfold oneT at hy
  rw [List.mem_singleton] at hy
  subst hy
  exact Nat.le_refl _) r
end Go.Proofs.Ytkolimhkfiebeaa

namespace Go.Proofs.Ytkolimhkfiebeaa
open Go.RowKit

theorem set_len_le (want : Bool → Bool → Bool) (a b : List Span) : (setL want a b).length ≤ a.length + b.length := by
  unfold setL
  split
  · exact setF_len want a b
  · exact Nat.zero_le _

end Go.Proofs.Ytkolimhkfiebeaa


namespace Go.Proofs.Ytkolimhkfiebeaa
open Go.RowKit

/-- All that SpanJoins asks. -/
structure JoinsOk (a b X L : List Span) : Prop where
  x : Good orB a b X
  y : Good orB b a X
  z : Good orB X b X
  l : Good lessB a b L
  m : Good orB L b X
  n : Good lessB L b L
  c : spansCount X = spansCount L + spansCount b

theorem joins_ok {a b : List Span} (ha : spansMay a = true) (hb : spansMay b = true) (hla : a.length ≤ 300) (hlb : b.length ≤ 300) : JoinsOk a b (setF orB a b) (setF lessB a b) := by
  have x := set_good (want := orB) rfl ha hb (by omega) or_sub
  have l := set_good (want := lessB) rfl ha hb (by omega) less_sub
  generalize setF orB a b = X at *
  generalize setF lessB a b = L at *
  have y := (set_good (want := orB) rfl hb ha (by omega) or_sub).is x.can (by have := x.len; omega) fun u => by rw [x.has]; unfold orB; exact Bool.or_comm _ _
  have z := (set_good (want := orB) rfl x.may hb (by have := x.len; omega) or_sub).is x.can (by omega) fun u => by rw [x.has]; unfold orB; cases spansHave a u <;> cases spansHave b u <;> rfl
  have n := (set_good (want := lessB) rfl l.may hb (by have := l.len; omega) less_sub).is l.can (by omega) fun u => by rw [l.has]; unfold lessB; cases spansHave a u <;> cases spansHave b u <;> rfl
  have m0 := set_good (want := orB) rfl l.may hb (by have := l.len; omega) or_sub
  have m : Good orB L b X := by
    have e : setF orB L b = X := m0.can.ext x.can fun u => by rw [m0.has, x.has, l.has]; unfold orB lessB; cases spansHave a u <;> cases spansHave b u <;> rfl
    exact e ▸ m0
  refine ⟨x, y, z, l, m, n, ?_⟩
  rw [count_meas x.may, count_meas l.may, count_meas hb, ← meas_or (fun u hu => ?_)]
  · exact meas_congr (fun u => by rw [m.has]; rfl) _
  · rw [l.has] at hu
    unfold lessB at hu
    revert hu
    cases spansHave a u <;> cases spansHave b u <;> decide

end Go.Proofs.Ytkolimhkfiebeaa


namespace Go.Proofs.Ytkolimhkfiebeaa
open Go.RowKit

def sumK (f : Nat → Int) : Nat → Int
  | 0 => 0
  | k + 1 => sumK f k + f k

theorem sumK_add {f g h : Nat → Int} : ∀ k, (∀ r, r < k → h r = f r + g r) → sumK h k = sumK f k + sumK g k
  | 0, _ => by simp [sumK]
  | k + 1, e => by
    unfold sumK
    rw [sumK_add k fun r hr => e r (by omega), e k (by omega)]
    omega

theorem clockMany_append (l m : List Times) : clockMany (l ++ m) = clockMany l + clockMany m := by
  induction l with
  | nil => show _ = 0 + _; rw [Int.zero_add]; rfl
  | cons x l ih =>
    show spansMany x.s + clockMany (l ++ m) = spansMany x.s + clockMany l + clockMany m
    omega

theorem clockMany_each (Ls : Nat → List Span) : ∀ k, clockMany (eachL Ls k) = sumK (fun r => spansMany (Ls r)) k
  | 0 => rfl
  | k + 1 => by
    unfold eachL sumK
    rw [clockMany_append, clockMany_each Ls k]
    congr 1
    by_cases h : (Ls k).length = 0
    · rw [if_pos h, List.eq_nil_of_length_eq_zero h]
      rfl
    · rw [if_neg h]
      show spansMany (Ls k) + 0 = _
      omega

theorem clockCount_sum {l : List Times} (h : clockMay l = true) : clockCount l = sumK (fun r => spansMany (firstOf l r)) 8 := by
  unfold clockCount
  rw [if_pos h]
  exact (congrArg clockMany (may_each h)).trans (clockMany_each _ 8)

theorem topS_iff {m : Int} : ∀ (l : List Span) (n : Int), topS n l ≤ m ↔ n ≤ m ∧ ∀ x ∈ l, x.t ≤ m
  | [], n => by simp [topS]
  | x :: l, n => by
    show topS (max n x.t) l ≤ m ↔ _
    rw [topS_iff l]
    simp only [List.mem_cons, forall_eq_or_imp]
    constructor
    · rintro ⟨h1, h2⟩
      exact ⟨by omega, by omega, h2⟩
    · rintro ⟨h1, h2, h3⟩
      exact ⟨by omega, h3⟩

theorem topT_append (n : Int) (l m : List Times) : topT n (l ++ m) = topT (topT n l) m := by
  unfold topT
  rw [List.foldl_append]

theorem topT_each {m : Int} (Ls : Nat → List Span) (n : Int) : ∀ k, topT n (eachL Ls k) ≤ m ↔ n ≤ m ∧ ∀ r, r < k → ∀ x ∈ Ls r, x.t ≤ m
  | 0 => by
    show n ≤ m ↔ _
    simp
  | k + 1 => by
    unfold eachL
    rw [topT_append]
    have e : topT (topT n (eachL Ls k)) (if (Ls k).length = 0 then [] else [⟨k, Ls k⟩]) = topS (topT n (eachL Ls k)) (Ls k) := by
      by_cases h : (Ls k).length = 0
      · rw [if_pos h, List.eq_nil_of_length_eq_zero h]
        rfl
      · rw [if_neg h]
        rfl
    rw [e, topS_iff, topT_each Ls n k]
    constructor
    · rintro ⟨⟨h1, h2⟩, h3⟩
      refine ⟨h1, fun r hr x hx => ?_⟩
      by_cases hk : r = k
      · subst hk
        exact h3 x hx
      · exact h2 r (by omega) x hx
    · rintro ⟨h1, h2⟩
      exact ⟨⟨h1, fun r hr => h2 r (by omega)⟩, h2 k (by omega)⟩

theorem top_have {l : List Span} {a m : Int} (h : Can a l) : (∀ x ∈ l, x.t ≤ m) ↔ ∀ u, spansHave l u = true → u ≤ m := by
  constructor
  · intro k u hu
    obtain ⟨x, hx, _, h2⟩ := have_iff.1 hu
    have := k x hx
    omega
  · intro k x hx
    exact k x.t (have_iff.2 ⟨x, hx, (h.mem hx).2, Int.le_refl _⟩)

theorem clockTop_iff {l : List Times} {m : Int} (h : clockMay l = true) : clockTopF l ≤ m ↔ 0 ≤ m ∧ ∀ r : Nat, r < 8 → ∀ u, spansHave (firstOf l r) u = true → u ≤ m := by
  unfold clockTopF
  rw [if_pos h]
  conv => lhs; rw [may_each h]
  rw [topT_each]
  refine and_congr Iff.rfl (forall_congr' fun r => forall_congr' fun hr => ?_)
  exact top_have (may_can (first_may h r)).1

theorem CGood.first {want : Bool → Bool → Bool} {a b L : List Times} (h : CGood want a b L) (ha : clockMay a = true) (hb : clockMay b = true) (hw : want false false = false) (hl : ∀ r : Nat, r < 8 → (firstOf a r).length + (firstOf b r).length ≤ 1024) (hs : ∀ p q, want p q = true → p = true ∨ q = true) (r : Nat) (hr : r < 8) : firstOf L r = setF want (firstOf a r) (firstOf b r) := by
  have h1 := (h.fit r hr).l
  have h2 := (set_good hw (first_may ha r) (first_may hb r) (hl r hr) hs).l
  exact h1.symm.trans h2

theorem CGood.same {want : Bool → Bool → Bool} {a b L M : List Times} (h : CGood want a b L) (ha : clockMay a = true) (hb : clockMay b = true) (hw : want false false = false) (hl : ∀ r : Nat, r < 8 → (firstOf a r).length + (firstOf b r).length ≤ 1024) (hs : ∀ p q, want p q = true → p = true ∨ q = true)
    (hM : clockMay M = true) (e : ∀ r : Nat, r < 8 → setF want (firstOf a r) (firstOf b r) = firstOf M r) : cSetL want a b = M ∧ cSetN want a b = 0 := by
  refine ⟨h.l.trans (clock_ext h.may hM fun r hr => ?_), h.n⟩
  rw [h.first ha hb hw hl hs r hr, e r hr]

/-- All that ClockJoins asks. -/
structure CJoinsOk (a b X L : List Times) : Prop where
  x : cSetL orB a b = X ∧ cSetN orB a b = 0
  y : cSetL orB b a = X ∧ cSetN orB b a = 0
  z : cSetL orB X b = X ∧ cSetN orB X b = 0
  l : cSetL lessB a b = L ∧ cSetN lessB a b = 0
  m : cSetL orB L b = X ∧ cSetN orB L b = 0
  c : clockCount X = clockCount L + clockCount b
  t : clockTopF X = max (clockTopF a) (clockTopF b)
  lx : X.length ≤ 8
  ll : L.length ≤ 8
  la : 0 ≤ clockTopF a ∧ clockTopF a ≤ 1073741824
  lb : 0 ≤ clockTopF b ∧ clockTopF b ≤ 1073741824
  cl : 0 ≤ clockCount L ∧ clockCount L ≤ 10995116277760
  cb : 0 ≤ clockCount b ∧ clockCount b ≤ 10995116277760

theorem sumK_le {f : Nat → Int} {m : Int} : ∀ k, (∀ r, r < k → 0 ≤ f r ∧ f r ≤ m) → 0 ≤ sumK f k ∧ sumK f k ≤ k * m
  | 0, _ => by simp [sumK]
  | k + 1, h => by
    have h1 := sumK_le k fun r hr => h r (by omega)
    have h2 := h k (by omega)
    unfold sumK
    have e : ((k + 1 : Nat) : Int) * m = k * m + m := by
      rw [Int.natCast_add, Int.add_mul]
      simp
    omega

theorem count_cl {l : List Times} (h : clockMay l = true) : 0 ≤ clockCount l ∧ clockCount l ≤ 10995116277760 := by
  rw [clockCount_sum h]
  have := sumK_le (f := fun r => spansMany (firstOf l r)) (m := 1099511627776) 8 fun r _ => by
    have h1 := count_le (firstOf l r)
    unfold spansCount at h1
    rw [if_pos (first_may h r)] at h1
    exact h1
  omega

theorem top_cl {l : List Times} (h : clockMay l = true) : 0 ≤ clockTopF l ∧ clockTopF l ≤ 1073741824 := by
  constructor
  · exact ((clockTop_iff h).1 (Int.le_refl _)).1
  · refine (clockTop_iff h).2 ⟨by omega, fun r _ => ?_⟩
    obtain ⟨h1, h2, _⟩ := may_can (first_may h r)
    exact (top_have h1).1 h2

theorem cjoins_ok {a b : List Times} (ha : clockMay a = true) (hb : clockMay b = true) (fa : few a) (fb : few b) : CJoinsOk a b (cSetL orB a b) (cSetL lessB a b) := by
  have la := fun r : Nat => first_le fa.2 r
  have lb := fun r : Nat => first_le fb.2 r
  have l1 : ∀ r : Nat, r < 8 → (firstOf a r).length + (firstOf b r).length ≤ 1024 := fun r _ => by have := la r; have := lb r; omega
  have x := cset_good (want := orB) rfl ha hb l1 or_sub
  have l := cset_good (want := lessB) rfl ha hb l1 less_sub
  have ex := fun r hr => x.first ha hb rfl l1 or_sub r hr
  have el := fun r hr => l.first ha hb rfl l1 less_sub r hr
  have hX : ∃ X, X = cSetL orB a b := ⟨_, rfl⟩
  have hL : ∃ L, L = cSetL lessB a b := ⟨_, rfl⟩
  obtain ⟨X, hX⟩ := hX
  obtain ⟨L, hL⟩ := hL
  rw [← hX] at x ex ⊢
  rw [← hL] at l el ⊢
  have hj : ∀ r : Nat, r < 8 → JoinsOk (firstOf a r) (firstOf b r) (firstOf X r) (firstOf L r) := fun r hr => by
    rw [ex r hr, el r hr]
    exact joins_ok (first_may ha r) (first_may hb r) (la r) (lb r)
  have lX : ∀ r : Nat, r < 8 → (firstOf X r).length ≤ 600 := fun r hr => by have := (hj r hr).x.len; have := la r; have := lb r; omega
  have lL : ∀ r : Nat, r < 8 → (firstOf L r).length ≤ 600 := fun r hr => by have := (hj r hr).l.len; have := la r; have := lb r; omega
  have l2 : ∀ r : Nat, r < 8 → (firstOf b r).length + (firstOf a r).length ≤ 1024 := fun r _ => by have := la r; have := lb r; omega
  have l3 : ∀ r : Nat, r < 8 → (firstOf X r).length + (firstOf b r).length ≤ 1024 := fun r hr => by have := lX r hr; have := lb r; omega
  have l4 : ∀ r : Nat, r < 8 → (firstOf L r).length + (firstOf b r).length ≤ 1024 := fun r hr => by have := lL r hr; have := lb r; omega
  have y := cset_good (want := orB) rfl hb ha l2 or_sub
  have z := cset_good (want := orB) rfl x.may hb l3 or_sub
  have m := cset_good (want := orB) rfl l.may hb l4 or_sub
  have gs : ∀ {want : Bool → Bool → Bool} {p q M : List Span}, spansMay p = true → spansMay q = true → want false false = false → (∀ p q, want p q = true → p = true ∨ q = true) → p.length + q.length ≤ 1024 → Good want p q M → setF want p q = M := fun h1 h2 h3 h4 h5 g => ((set_good h3 h1 h2 h5 h4).l.symm.trans g.l)
  refine ⟨⟨hX.symm, x.n⟩, y.same hb ha rfl l2 or_sub x.may fun r hr => gs (first_may hb r) (first_may ha r) rfl or_sub (l2 r hr) (hj r hr).y, z.same x.may hb rfl l3 or_sub x.may fun r hr => gs (first_may x.may r) (first_may hb r) rfl or_sub (l3 r hr) (hj r hr).z, ⟨hL.symm, l.n⟩,
    m.same l.may hb rfl l4 or_sub x.may fun r hr => gs (first_may l.may r) (first_may hb r) rfl or_sub (l4 r hr) (hj r hr).m, ?_, ?_, x.len, l.len, top_cl ha, top_cl hb, count_cl l.may, count_cl hb⟩
  · rw [clockCount_sum x.may, clockCount_sum l.may, clockCount_sum hb]
    refine sumK_add 8 fun r hr => ?_
    have h := (hj r hr).c
    unfold spansCount at h
    rw [if_pos (first_may x.may r), if_pos (first_may l.may r), if_pos (first_may hb r)] at h
    exact h
  · have h : ∀ m : Int, clockTopF X ≤ m ↔ clockTopF a ≤ m ∧ clockTopF b ≤ m := fun m => by
      rw [clockTop_iff x.may, clockTop_iff ha, clockTop_iff hb]
      have e : ∀ r : Nat, r < 8 → ∀ u, spansHave (firstOf X r) u = (spansHave (firstOf a r) u || spansHave (firstOf b r) u) := fun r hr u => (hj r hr).x.has u
      constructor
      · rintro ⟨h1, h2⟩
        exact ⟨⟨h1, fun r hr u hu => h2 r hr u (by rw [e r hr, hu]; rfl)⟩, h1, fun r hr u hu => h2 r hr u (by rw [e r hr, hu, Bool.or_true])⟩
      · rintro ⟨⟨h1, h2⟩, _, h3⟩
        refine ⟨h1, fun r hr u hu => ?_⟩
        rw [e r hr, Bool.or_eq_true] at hu
        rcases hu with hu | hu
        · exact h2 r hr u hu
        · exact h3 r hr u hu
    have h1 := (h (clockTopF X)).1 (Int.le_refl _)
    have h2 := (h (max (clockTopF a) (clockTopF b))).2 ⟨by omega, by omega⟩
    omega

set_option maxRecDepth 100000 in
set_option maxHeartbeats 8000000 in
theorem lawClockJoins08 (A B : Option Addr) (c d : Nat) (a b : List Times) (w : World) (hla : a.length ≤ 140737488355328) (hlb : b.length ≤ 140737488355328) (hsa : ∀ y ∈ a, y.s.length ≤ 140737488355328) (hsb : ∀ y ∈ b, y.s.length ≤ 140737488355328)
    (hA : R cTimes 0 w A a) (hB : R cTimes 0 w B b) :
    Calls Try.prog 3 #[.slice A a.length c, .slice B b.length d] w fun e w' => e = .returned (.bool true) ∧ Bl w w' := by
  have ham : a.length ≤ maxLen := by unfold maxLen; omega
  have hbm : b.length ≤ maxLen := by unfold maxLen; omega
  have hga := hide fun V (hv : Bl w V) => refGreat08 A c a V hla hsa (hA.bl hv)
  have hgb := hide fun V (hv : Bl w V) => refGreat08 B d b V hlb hsb (hB.bl hv)
  have hca := fun V (hv : Bl w V) => clockCheck A c a V ham (hA.bl hv)
  have hcb := fun V (hv : Bl w V) => clockCheck B d b V hbm (hB.bl hv)
  have hkb := fun V (hv : Bl w V) => clockCountC B d b V hbm (hB.bl hv)
  have hta := fun V (hv : Bl w V) => clockTop A c a V ham (hA.bl hv)
  have htb := fun V (hv : Bl w V) => clockTop B d b V hbm (hB.bl hv)
  cases hma : clockMay a
  · rw [hma] at hca
    replace hca := hide hca
    clear hma hkb hta htb
    go_enter Try.func3, Try.ntmps3
    go_wp2_with fail
    refine (lawAlive08 _).mono ?_
    rintro e w1 ⟨rfl, hb1⟩
    go_wp2_with fail
    refine (hga.out _ (by repeat first | assumption | exact Bl.refl _ | refine Bl.alloc ?_ _ | refine Bl.trans ?_ (by assumption))).mono ?_
    rintro e w2 ⟨q1, rfl, hfa, hb2⟩
    clear hfa
    cases q1
    rotate_left
    · go_wp2_with fail
      go_ret
      exact ⟨rfl, (by repeat first | assumption | exact Bl.refl _ | refine Bl.alloc ?_ _ | refine Bl.trans ?_ (by assumption))⟩
    go_wp2_with fail
    refine (hgb.out _ (by repeat first | assumption | exact Bl.refl _ | refine Bl.alloc ?_ _ | refine Bl.trans ?_ (by assumption))).mono ?_
    rintro e w3 ⟨q2, rfl, hfb, hb3⟩
    clear hfb
    cases q2
    rotate_left
    · go_wp2_with fail
      go_ret
      exact ⟨rfl, (by repeat first | assumption | exact Bl.refl _ | refine Bl.alloc ?_ _ | refine Bl.trans ?_ (by assumption))⟩
    go_wp2_with fail
    refine (hca.out _ (by repeat first | assumption | exact Bl.refl _ | refine Bl.alloc ?_ _ | refine Bl.trans ?_ (by assumption))).mono ?_
    rintro e w4 ⟨rfl, hb4⟩
    rw [okOr_false]
    go_wp2_with fail
    go_ret
    exact ⟨rfl, (by repeat first | assumption | exact Bl.refl _ | refine Bl.alloc ?_ _ | refine Bl.trans ?_ (by assumption))⟩
  cases hmb : clockMay b
  · rw [hma] at hca
    rw [hmb] at hcb
    replace hca := hide hca
    replace hcb := hide hcb
    clear hma hmb hkb hta htb
    go_enter Try.func3, Try.ntmps3
    go_wp2_with fail
    refine (lawAlive08 _).mono ?_
    rintro e w1 ⟨rfl, hb1⟩
    go_wp2_with fail
    refine (hga.out _ (by repeat first | assumption | exact Bl.refl _ | refine Bl.alloc ?_ _ | refine Bl.trans ?_ (by assumption))).mono ?_
    rintro e w2 ⟨q1, rfl, hfa, hb2⟩
    clear hfa
    cases q1
    rotate_left
    · go_wp2_with fail
      go_ret
      exact ⟨rfl, (by repeat first | assumption | exact Bl.refl _ | refine Bl.alloc ?_ _ | refine Bl.trans ?_ (by assumption))⟩
    go_wp2_with fail
    refine (hgb.out _ (by repeat first | assumption | exact Bl.refl _ | refine Bl.alloc ?_ _ | refine Bl.trans ?_ (by assumption))).mono ?_
    rintro e w3 ⟨q2, rfl, hfb, hb3⟩
    clear hfb
    cases q2
    rotate_left
    · go_wp2_with fail
      go_ret
      exact ⟨rfl, (by repeat first | assumption | exact Bl.refl _ | refine Bl.alloc ?_ _ | refine Bl.trans ?_ (by assumption))⟩
    go_wp2_with fail
    refine (hca.out _ (by repeat first | assumption | exact Bl.refl _ | refine Bl.alloc ?_ _ | refine Bl.trans ?_ (by assumption))).mono ?_
    rintro e w4 ⟨rfl, hb4⟩
    rw [okOr_true]
    go_wp2_with fail
    refine (hcb.out _ (by repeat first | assumption | exact Bl.refl _ | refine Bl.alloc ?_ _ | refine Bl.trans ?_ (by assumption))).mono ?_
    rintro e w5 ⟨rfl, hb5⟩
    rw [okOr_false]
    go_wp2_with fail
    go_ret
    exact ⟨rfl, (by repeat first | assumption | exact Bl.refl _ | refine Bl.alloc ?_ _ | refine Bl.trans ?_ (by assumption))⟩
  rw [hma] at hca
  rw [hmb] at hcb
  have hok := hide fun (fa : few a) (fb : few b) => cjoins_ok hma hmb fa fb
  generalize cSetL orB a b = X0 at hok
  generalize cSetL lessB a b = L0 at hok
  clear hma hmb
  replace hca := hide hca
  replace hcb := hide hcb
  have jx := hide fun V (hv : Bl w V) => clockJoin A B c d a b V hla hlb (hA.bl hv) (hB.bl hv)
  have jy := hide fun V (hv : Bl w V) => clockJoin B A d c b a V hlb hla (hB.bl hv) (hA.bl hv)
  have jl := hide fun V (hv : Bl w V) => clockLess A B c d a b V hla hlb (hA.bl hv) (hB.bl hv)
  replace hkb := hide hkb
  replace hta := hide hta
  replace htb := hide htb
  go_enter Try.func3, Try.ntmps3
  go_wp2_with fail
  refine (lawAlive08 _).mono ?_
  rintro e w1 ⟨rfl, hb1⟩
  go_wp2_with fail
  refine (hga.out _ (by repeat first | assumption | exact Bl.refl _ | refine Bl.alloc ?_ _ | refine Bl.trans ?_ (by assumption))).mono ?_
  rintro e w2 ⟨q1, rfl, hfa, hb2⟩
  cases q1
  rotate_left
  · clear hfa
    go_wp2_with fail
    go_ret
    exact ⟨rfl, (by repeat first | assumption | exact Bl.refl _ | refine Bl.alloc ?_ _ | refine Bl.trans ?_ (by assumption))⟩
  replace hfa := hide (hfa rfl)
  go_wp2_with fail
  refine (hgb.out _ (by repeat first | assumption | exact Bl.refl _ | refine Bl.alloc ?_ _ | refine Bl.trans ?_ (by assumption))).mono ?_
  rintro e w3 ⟨q2, rfl, hfb, hb3⟩
  cases q2
  rotate_left
  · clear hfb
    go_wp2_with fail
    go_ret
    exact ⟨rfl, (by repeat first | assumption | exact Bl.refl _ | refine Bl.alloc ?_ _ | refine Bl.trans ?_ (by assumption))⟩
  replace hfb := hide (hfb rfl)
  go_wp2_with fail
  refine (hca.out _ (by repeat first | assumption | exact Bl.refl _ | refine Bl.alloc ?_ _ | refine Bl.trans ?_ (by assumption))).mono ?_
  rintro e w4 ⟨rfl, hb4⟩
  rw [okOr_true]
  go_wp2_with fail
  refine (hcb.out _ (by repeat first | assumption | exact Bl.refl _ | refine Bl.alloc ?_ _ | refine Bl.trans ?_ (by assumption))).mono ?_
  rintro e w5 ⟨rfl, hb5⟩
  rw [okOr_true]
  have g := hok.out hfa.out hfb.out
  have hb05 : Bl w w5 := (by repeat first | assumption | exact Bl.refl _ | refine Bl.alloc ?_ _ | refine Bl.trans ?_ (by assumption))
  clear hfa hfb hok hga hgb hb1 hb2 hb3 hb4 hb5 hca hcb
  have lx := g.lx
  have ll := g.ll
  have jz := fun X x V (hX : R cTimes 0 V X X0) (hv : Bl w V) => clockJoin X B x d X0 b V (by omega) hlb hX (hB.bl hv)
  have jm := fun X x V (hX : R cTimes 0 V X L0) (hv : Bl w V) => clockJoin X B x d L0 b V (by omega) hlb hX (hB.bl hv)
  have kx := fun X x V (hX : R cTimes 0 V X X0) => clockCountC X x X0 V (by unfold maxLen; omega) hX
  have kl := fun X x V (hX : R cTimes 0 V X L0) => clockCountC X x L0 V (by unfold maxLen; omega) hX
  have tx := fun X x V (hX : R cTimes 0 V X X0) => clockTop X x X0 V (by unfold maxLen; omega) hX
  have sx := hide fun X x Y y V (hX : R cTimes 0 V X X0) (hY : R cTimes 0 V Y X0) => clockSameSelf X0 (c := x) (d := y) (by unfold maxLen; omega) hX hY
  have jx := jx.out
  have jy := jy.out
  have jl := jl.out
  rw [g.x.1, g.x.2] at jx
  rw [g.y.1, g.y.2] at jy
  rw [g.z.1, g.z.2] at jz
  rw [g.l.1, g.l.2] at jl
  rw [g.m.1, g.m.2] at jm
  rw [g.c] at kx
  rw [g.t] at tx
  have q1 := g.cl
  have q2 := g.cb
  have q3 := g.la
  have q4 := g.lb
  have hkb := hkb.out
  have hta := hta.out
  have htb := htb.out
  clear g
  generalize clockCount L0 = u at *
  generalize clockCount b = v at *
  generalize clockTopF a = p at *
  generalize clockTopF b = q at *
  have e1 : IntKind.i64.wrap (u + v) = u + v := IntWalk.i64_in _ (by omega)
  have e2 : ((u + v) == (u + v)) = true := beq_self_eq_true _
  have e3 : (max p q == max p q) = true := beq_self_eq_true _
  clear q1 q2 q3 q4 lx ll
  replace jx := hide jx
  replace jy := hide jy
  replace jz := hide jz
  replace jl := hide jl
  replace jm := hide jm
  replace kx := hide kx
  replace kl := hide kl
  replace tx := hide tx
  replace hkb := hide hkb
  replace hta := hide hta
  replace htb := hide htb
  go_wp2_with fail
  refine (jx.out _ (by repeat first | assumption | exact Bl.refl _ | refine Bl.alloc ?_ _ | refine Bl.trans ?_ (by assumption))).mono ?_
  rintro e w6 ⟨X, x, rfl, x1, x2, hX, hb6⟩
  have hb06 := hb05.trans hb6
  go_wp2_with fail
  refine (jy.out _ hb06).mono ?_
  rintro e w7 ⟨Y, y, rfl, y1, y2, hY, hb7⟩
  have hb07 := hb06.trans hb7
  go_wp2_with fail
  refine (jz.out X x _ (hX.zero.bl hb7) hb07).mono ?_
  rintro e w8 ⟨Z, z, rfl, z1, z2, hZ, hb8⟩
  have hb08 := hb07.trans hb8
  go_wp2_with fail
  refine (jl.out _ hb08).mono ?_
  rintro e w9 ⟨L, l, rfl, l1, l2, hL, hb9⟩
  have hb09 := hb08.trans hb9
  go_wp2_with fail
  refine (jm.out L l _ hL.zero hb09).mono ?_
  rintro e w10 ⟨M, m, rfl, m1, m2, hM, hb10⟩
  have hb010 := hb09.trans hb10
  have X9 := hX.zero.bl (hb7.trans (hb8.trans (hb9.trans hb10)))
  have Y9 := hY.zero.bl (hb8.trans (hb9.trans hb10))
  have Z9 := hZ.zero.bl (hb9.trans hb10)
  have L9 := hL.zero.bl hb10
  have M9 := hM.zero
  clear hX hY hZ hL hM hb6 hb7 hb8 hb9 hb10 hb05 hb06 hb07 hb08 hb09
  go_wp2_with fail
  refine (sx.out X x Y y _ X9 Y9).mono ?_
  rintro e w11 ⟨rfl, hc1⟩
  go_wp2_with fail
  refine (sx.out X x Z z _ (X9.bl hc1) (Z9.bl hc1)).mono ?_
  rintro e w12 ⟨rfl, hc2'⟩
  have hc2 := hc1.trans hc2'
  go_wp2_with fail
  refine (sx.out M m X x _ (M9.bl hc2) (X9.bl hc2)).mono ?_
  rintro e w13 ⟨rfl, hc3'⟩
  have hc3 := hc2.trans hc3'
  go_wp2_with fail
  refine (kx.out X x _ (X9.bl hc3)).mono ?_
  rintro e w14 ⟨rfl, hc4'⟩
  have hc4 := hc3.trans hc4'
  go_wp2_with fail
  refine (kl.out L l _ (L9.bl hc4)).mono ?_
  rintro e w15 ⟨rfl, hc5'⟩
  have hc5 := hc4.trans hc5'
  go_wp2_with fail
  refine (hkb.out _ (hb010.trans hc5)).mono ?_
  rintro e w16 ⟨rfl, hc6'⟩
  have hc6 := hc5.trans hc6'
  go_wp2_with fail
  refine (tx.out X x _ (X9.bl hc6)).mono ?_
  rintro e w17 ⟨rfl, hc7'⟩
  have hc7 := hc6.trans hc7'
  go_wp2_with fail
  refine (hta.out _ (hb010.trans hc7)).mono ?_
  rintro e w18 ⟨rfl, hc8'⟩
  have hc8 := hc7.trans hc8'
  go_wp2_with fail
  refine (htb.out _ (hb010.trans hc8)).mono ?_
  rintro e w19 ⟨rfl, hc9'⟩
  have hc9 := hc8.trans hc9'
  go_wp2_with fail
  go_ret
  exact ⟨rfl, hb010.trans hc9⟩
end Go.Proofs.Ytkolimhkfiebeaa

namespace Go.Proofs.Ytkolimhkfiebeaa
open Go.RowKit

theorem mem_idsN {r : Int} {x : Id} : ∀ {n : Nat} {t : Int}, x ∈ idsN r t n ↔ x.r = r ∧ t ≤ x.t ∧ x.t < t + n
  | 0, t => by
    constructor
    · intro h; cases h
    · rintro ⟨_, h1, h2⟩; omega
  | n + 1, t => by
    show x ∈ _ :: idsN r (t + 1) n ↔ _
    rw [List.mem_cons, mem_idsN]
    constructor
    · rintro (rfl | ⟨h1, h2, h3⟩)
      · exact ⟨rfl, by dsimp only; omega, by dsimp only; omega⟩
      · exact ⟨h1, by omega, by omega⟩
    · rintro ⟨h1, h2, h3⟩
      by_cases e : x.t = t
      · exact .inl (Id.ext' e h1)
      · exact .inr ⟨h1, by omega, by omega⟩

theorem mem_spansIds {r : Int} {x : Id} : ∀ {l : List Span}, x ∈ spansIds r l ↔ x.r = r ∧ spansHave l x.t = true
  | [] => by
    constructor
    · intro h; cases h
    · rintro ⟨_, h⟩; rw [have_nil] at h; cases h
  | s :: l => by
    show x ∈ idsFrom r s.f s.t ++ spansIds r l ↔ _
    rw [List.mem_append, mem_spansIds, have_cons, Bool.or_eq_true, inX_iff]
    unfold idsFrom
    rw [mem_idsN]
    constructor
    · rintro (⟨h1, h2, h3⟩ | ⟨h1, h2⟩)
      · exact ⟨h1, .inl ⟨h2, by omega⟩⟩
      · exact ⟨h1, .inr h2⟩
    · rintro ⟨h1, ⟨h2, h3⟩ | h2⟩
      · exact .inl ⟨h1, h2, by omega⟩
      · exact .inr ⟨h1, h2⟩

theorem mem_clockAll {x : Id} : ∀ {c : List Times}, x ∈ clockAll c ↔ ∃ y ∈ c, x.r = y.r ∧ spansHave y.s x.t = true
  | [] => by
    constructor
    · intro h; cases h
    · rintro ⟨y, h, _⟩; cases h
  | y :: c => by
    show x ∈ spansIds y.r y.s ++ clockAll c ↔ _
    rw [List.mem_append, mem_spansIds, mem_clockAll]
    simp

theorem first_of_mem : ∀ {l : List Times} {last : Int}, clockFrom last l = true → ∀ y ∈ l, firstOf l y.r = y.s
  | [], _, _, y, hy => by cases hy
  | x :: l, last, h, y, hy => by
    simp only [clockFrom, Bool.and_eq_true, decide_eq_true_eq] at h
    unfold firstOf
    rw [List.find?_cons]
    rcases List.mem_cons.1 hy with rfl | hy
    · simp
    · have h1 := (from_low h.2 y hy).1
      have : ¬ x.r = y.r := by omega
      simp only [this, decide_false]
      have ih := first_of_mem h.2 y hy
      unfold firstOf at ih
      exact ih

theorem have_mem {l : List Times} {r u : Int} (h : spansHave (firstOf l r) u = true) : ∃ y ∈ l, r = y.r ∧ spansHave y.s u = true := by
  unfold firstOf at h
  cases hf : l.find? (fun x => decide (x.r = r)) with
  | none => rw [hf] at h; dsimp only at h; rw [have_nil] at h; cases h
  | some x =>
    rw [hf] at h
    have h1 := List.find?_some hf
    exact ⟨x, List.mem_of_find?_eq_some hf, (of_decide_eq_true h1).symm, h⟩

theorem all_first {c : List Times} (h : clockMay c = true) {x : Id} : x ∈ clockAll c ↔ spansHave (firstOf c x.r) x.t = true := by
  rw [mem_clockAll]
  constructor
  · rintro ⟨y, hy, h1, h2⟩
    rw [h1, first_of_mem (last := -1) h y hy]
    exact h2
  · intro h1
    exact have_mem h1

theorem all_may {c : List Times} (h : clockMay c = true) (h0 : ∀ y ∈ c, 0 ≤ y.r) : idsMay (clockAll c) = true := List.all_eq_true.2 fun x hx => by
  obtain ⟨y, hy, h1, h2⟩ := mem_clockAll.1 hx
  have k1 := from_low (last := -1) h y hy
  have k2 := h0 y hy
  obtain ⟨m1, m2, m3⟩ := may_can (clockFrom_all _ (show clockFrom (-1) c = true from h) y hy)
  have k3 := m1.least h2
  have k4 := (top_have m1).1 m2 _ h2
  unfold idMay
  simp only [Bool.and_eq_true, decide_eq_true_eq]
  omega

theorem may_zero {c : List Times} (h : clockMay c = true) : ∀ y ∈ c, 0 ≤ y.r := fun y hy => by
  have := (from_low (last := -1) h y hy).1
  omega

theorem all_len {c : List Times} (h : clockMay c = true) : ((clockAll c).length : Int) = clockMany c := clockAll_length c (clockFrom_all _ (show clockFrom (-1) c = true from h))

/-- The clock of a clock's stamps is that. -/
theorem of_all {c : List Times} (h : clockMay c = true) (hm : clockMany c ≤ 1024) : ofC (clockAll c) = c := by
  have hl := all_len h
  refine ofC_is (by omega) (all_may h (may_zero h)) h fun r _ u => ?_
  rw [Bool.eq_iff_iff, decide_eq_true_eq, times_mem]
  constructor
  · intro h1
    obtain ⟨y, hy, e1, e2⟩ := have_mem h1
    exact ⟨⟨u, r⟩, mem_clockAll.2 ⟨y, hy, e1, e2⟩, rfl, rfl⟩
  · rintro ⟨x, hx, e1, rfl⟩
    rw [← e1]
    exact (all_first h).1 hx

theorem ofL_all {c : List Times} (h : clockMay c = true) (hm : clockMany c ≤ 1024) : ofL (clockAll c) = c ∧ ofN (clockAll c) = 0 := by
  have hl := all_len h
  have h1 := all_may h (may_zero h)
  have hn : ¬ 1024 < (clockAll c).length := by omega
  unfold ofL ofN
  rw [if_neg hn, if_neg hn, if_pos h1, of_all h hm, h1]
  exact ⟨rfl, rfl⟩

theorem timesOf_cons (r : Int) (x : Id) (l : List Id) : timesOf r (x :: l) = if x.r = r then x.t :: timesOf r l else timesOf r l := by
  unfold timesOf
  rw [List.filter_cons]
  by_cases e : x.r = r
  · simp [e]
  · simp [e]

def onesK (r : Int) : Nat → Int := fun k => if r = k then 1 else 0

theorem sum_ones (r : Int) : ∀ k, sumK (onesK r) k ≤ 1 ∧ (r ≥ k → sumK (onesK r) k = 0) ∧ 0 ≤ sumK (onesK r) k
  | 0 => by simp [sumK]
  | k + 1 => by
    obtain ⟨h1, h2, h3⟩ := sum_ones r k
    have e0 : sumK (onesK r) (k + 1) = sumK (onesK r) k + (if r = k then 1 else 0) := rfl
    rw [e0]
    by_cases e : r = k
    · rw [if_pos e]
      have := h2 (by omega)
      exact ⟨by omega, fun h => by omega, by omega⟩
    · rw [if_neg e]
      exact ⟨by omega, fun h => by have := h2 (by omega); omega, by omega⟩

theorem sum_mono {f g : Nat → Int} : ∀ k, (∀ r, r < k → f r ≤ g r) → sumK f k ≤ sumK g k
  | 0, _ => Int.le_refl _
  | k + 1, h => by
    have h1 := sum_mono k fun r hr => h r (by omega)
    have h2 := h k (by omega)
    unfold sumK
    omega

theorem sum_times : ∀ (l : List Id) (k : Nat), sumK (fun r => ((timesOf r l).length : Int)) k ≤ l.length
  | [], k => by
    have : ∀ k, sumK (fun r : Nat => ((timesOf (r : Int) []).length : Int)) k = 0 := fun k => by
      induction k with
      | zero => rfl
      | succ k ih => unfold sumK; rw [ih]; rfl
    rw [this]
    exact Int.le_refl _
  | x :: l, k => by
    have h1 := sum_times l k
    have h2 := (sum_ones x.r k).1
    have h3 := sumK_add (f := fun r => ((timesOf r l).length : Int)) (g := onesK x.r) (h := fun r => ((timesOf r (x :: l)).length : Int)) k fun r _ => by
      rw [timesOf_cons]
      unfold onesK
      by_cases e : x.r = r
      · rw [if_pos e, if_pos e, List.length_cons]; omega
      · rw [if_neg e, if_neg e]; omega
    simp only [List.length_cons]
    omega

/-- What ClockIds asks of the clock of some stamps. -/
structure OfIds (l : List Id) (X : List Times) (M : List Id) : Prop where
  ids : clockIds X = M ∧ clockIdsErr X = 0
  cnt : clockCount X = M.length
  len : M.length ≤ l.length
  of : ofL M = X ∧ ofN M = 0
  has : ∀ x ∈ l, clockHas X x = true
  lx : X.length ≤ 8

theorem of_ids {l : List Id} (hl : l.length ≤ 1000) (hm : idsMay l = true) (h0 : ∀ x ∈ l, 0 ≤ x.r) : OfIds l (ofL l) (clockAll (ofL l)) := by
  have e : ofL l = ofC l := by unfold ofL; rw [if_neg (by omega), if_pos hm]
  have h8 := ofL_len l
  rw [e] at *
  have hc := ofC_may hm (by omega)
  have hmany : clockMany (ofC l) ≤ l.length := by
    have h1 : clockMany (ofC l) = sumK (fun r => spansMany (ofR l r)) 8 := clockMany_each (ofR l) 8
    have h2 := sum_mono (f := fun r => spansMany (ofR l r)) (g := fun r => ((timesOf r l).length : Int)) 8 fun r _ => (ofR_ok hm r).many
    have h3 := sum_times l 8
    omega
  have hl2 := all_len hc
  refine ⟨⟨?_, ?_⟩, ?_, by omega, ofL_all hc (by omega), fun x hx => ?_, h8⟩
  · unfold clockIds; rw [if_pos hc, if_pos (by omega)]
  · unfold clockIdsErr; rw [if_pos hc, if_pos (by omega)]
  · unfold clockCount; rw [if_pos hc]; exact hl2.symm
  · have hi := List.all_eq_true.1 hm x hx
    unfold idMay at hi
    simp only [Bool.and_eq_true, decide_eq_true_eq] at hi
    have h1 := h0 x hx
    rw [has_first hc]
    obtain ⟨r, hr⟩ : ∃ r : Nat, x.r = r := ⟨x.r.toNat, by omega⟩
    rw [hr, first_ofC l r (by omega), (ofR_ok hm r).has]
    exact decide_eq_true (times_mem.2 ⟨x, hx, hr, rfl⟩)

theorem R.okI {lo : Nat} {w : World} {A : Option Addr} {l : List Id} (h : R cId lo w A l) : ∀ x ∈ l, x.ok := by
  obtain ⟨cells, hr, -⟩ := h
  induction l generalizing cells with
  | nil => intro x hx; cases hx
  | cons y l ih =>
    obtain ⟨a, b, rfl, ha, hb⟩ := hr
    intro x hx
    rcases List.mem_cons.1 hx with rfl | hx
    · exact ha.1
    · exact ih b hb x hx

/-- How the stamps of a clock come back. -/
structure IdsBack (c : List Times) (M : List Id) : Prop where
  ids : clockIds c = M
  err : clockIdsErr c = 0
  of : ofL M = c
  ofn : ofN M = 0

theorem ids_back (c : List Times) : IdsBack c (clockIds c) ∨ (clockIds c = [] ∧ (clockIdsErr c = 8 ∨ clockIdsErr c = 4)) := by
  unfold clockIdsErr
  by_cases h : clockMay c = true
  · by_cases hm : clockMany c ≤ 1024
    · left
      have e : clockIds c = clockAll c := by unfold clockIds; rw [if_pos h, if_pos hm]
      rw [e]
      exact ⟨e, by unfold clockIdsErr; rw [if_pos h, if_pos hm], (ofL_all h hm).1, (ofL_all h hm).2⟩
    · right
      unfold clockIds
      rw [if_pos h, if_neg hm, if_pos h, if_neg hm]
      exact ⟨rfl, .inr rfl⟩
  · right
    unfold clockIds
    rw [if_neg h, if_neg h]
    exact ⟨rfl, .inl rfl⟩

/-- The second half: the stamps of a clock, their clock, and its stamps. -/
theorem ofN_cases {l : List Id} (h : l.length ≤ 1000) : (ofN l = 0 ∧ idsMay l = true) ∨ ofN l = 8 := by
  unfold ofN
  rw [if_neg (by omega)]
  cases h : idsMay l
  · exact .inr rfl
  · exact .inl ⟨rfl, rfl⟩

set_option maxRecDepth 100000 in
set_option maxHeartbeats 8000000 in
theorem lawClockIds08 (A C : Option Addr) (c d : Nat) (l : List Id) (t : List Times) (w : World) (hl : l.length ≤ 140737488355328) (ht : t.length ≤ 140737488355328) (hst : ∀ y ∈ t, y.s.length ≤ 140737488355328)
    (hA : R cId 0 w A l) (hC : R cTimes 0 w C t) :
    Calls Try.prog 5 #[.slice A l.length c, .slice C t.length d] w fun e w' => e = .returned (.bool true) ∧ Bl w w' := by
  have htm : t.length ≤ maxLen := by unfold maxLen; omega
  have hgc := hide fun V (hv : Bl w V) => refGreat08 C d t V ht hst (hC.bl hv)
  by_cases hbig : (1000 : Int) < (l.length : Int)
  · go_enter Try.func5, Try.ntmps5
    go_wp2_with fail
    refine (lawAlive08 _).mono ?_
    rintro e w1 ⟨rfl, hb1⟩
    go_wp2_with fail
    go_ret
    exact ⟨rfl, hb1⟩
  have hl0 : l.length ≤ 1000 := by omega
  have hll := hide hl0
  have hd1 : decide ((1000 : Int) < (l.length : Int)) = false := decide_eq_false hbig
  have pof := fun V (hv : Bl w V) => clockOf A c l V (by unfold maxLen; omega) (hA.bl hv)
  have hic := fun V (hv : Bl w V) => clockIdsC C d t V htm (hC.bl hv)
  have hoks := hide hA.okI
  have hA := hA
  rcases ids_back t with gb | ⟨eb, nb⟩
  · have lm2 := clockIds_len t
    have hof2 := fun X x V (hX : R cId 0 V X (clockIds t)) => clockOf X x (clockIds t) V (by unfold maxLen; omega) hX
    have hids2 := fun X x V (hX : R cTimes 0 V X t) => clockIdsC X x t V htm hX
    have hsam2 := hide fun X x V (hX : R cTimes 0 V X t) (hv : Bl w V) => clockSameSelf t (c := x) (d := d) htm hX (hC.bl hv)
    have hsid2 := hide fun X x Y y V (hX : R cId 0 V X (clockIds t)) (hY : R cId 0 V Y (clockIds t)) => sameIdsSelf (clockIds t) (c := x) (d := y) (by unfold maxLen; omega) hX hY
    simp only [gb.err] at hic
    simp only [gb.of, gb.ofn] at hof2
    simp only [gb.err] at hids2
    generalize clockIds t = M2 at *
    clear gb
    replace hic := hide hic
    replace hof2 := hide hof2
    replace hids2 := hide hids2
    rcases ofN_cases hl0 with ⟨en, hm⟩ | en
    · have g := of_ids hl0 hm fun x hx => (hoks.out x hx).2.2.1
      rw [en] at pof
      generalize ofL l = X0 at *
      generalize clockAll X0 = M0 at *
      have kids := fun X x V (hX : R cTimes 0 V X X0) => clockIdsC X x X0 V (by have := g.lx; unfold maxLen; omega) hX
      rw [g.ids.1, g.ids.2] at kids
      have kcnt := fun X x V (hX : R cTimes 0 V X X0) => clockCountC X x X0 V (by have := g.lx; unfold maxLen; omega) hX
      rw [g.cnt] at kcnt
      have kof := fun X x V (hX : R cId 0 V X M0) => clockOf X x M0 V (by have := g.len; unfold maxLen; omega) hX
      rw [g.of.1, g.of.2] at kof
      have khas := hide fun X x y (hy : y ∈ l) (hyo : y.ok) V (hX : R cTimes 0 V X X0) => (show Calls Try.prog 36 #[.slice X X0.length x, .agg #[.int .u32 y.t, .int .u8 y.r]] V fun e w' => e = .returned (.bool true) ∧ Bl V w' by
        have h := clockHasC X x X0 y V (by have := g.lx; omega) hyo hX
        rwa [g.has y hy] at h)
      have ksame := hide fun X x Y y V (hX : R cTimes 0 V X X0) (hY : R cTimes 0 V Y X0) => clockSameSelf X0 (c := x) (d := y) (by have := g.lx; unfold maxLen; omega) hX hY
      have lx := g.lx
      have lm := g.len
      have lmi : (M0.length : Int) ≤ (l.length : Int) := by omega
      have lmn : decide (l.length < M0.length) = false := decide_eq_false (by omega)
      have e1 : ((M0.length : Int) != (M0.length : Int)) = false := by simp
      clear g hm en
      replace kids := hide kids
      replace kcnt := hide kcnt
      replace kof := hide kof
      replace pof := hide pof
      go_enter Try.func5, Try.ntmps5
      go_wp2_with fail
      refine (lawAlive08 _).mono ?_
      rintro e w1 ⟨rfl, hb1⟩
      go_wp2_with fail
      refine (hgc.out _ (by repeat first | assumption | exact Bl.refl _ | refine Bl.alloc ?_ _ | refine Bl.trans ?_ (by assumption))).mono ?_
      rintro e w2 ⟨q1, rfl, hfa, hb2⟩
      clear hfa
      cases q1
      rotate_left
      · go_wp2_with fail
        go_ret
        exact ⟨rfl, (by repeat first | assumption | exact Bl.refl _ | refine Bl.alloc ?_ _ | refine Bl.trans ?_ (by assumption))⟩
      go_wp2_with fail
      refine (pof.out _ (by repeat first | assumption | exact Bl.refl _ | refine Bl.alloc ?_ _ | refine Bl.trans ?_ (by assumption))).mono ?_
      rintro e w3 ⟨X, x, rfl, x1, x2, hX, hb3⟩
      have hb03 : Bl w w3 := (by repeat first | assumption | exact Bl.refl _ | refine Bl.alloc ?_ _ | refine Bl.trans ?_ (by assumption))
      clear hb1 hb2
      have lxm : X0.length ≤ maxLen := by unfold maxLen; omega
      go_wp2_with fail
      refine (kids.out X x _ hX.zero).mono ?_
      rintro e w4 ⟨M, m, rfl, m1, m2, hM, hb4⟩
      go_wp2_with fail
      refine (kcnt.out X x _ (hX.zero.bl hb4)).mono ?_
      rintro e w5 ⟨rfl, hb5⟩
      have hb05 := hb03.trans (hb4.trans hb5)
      have hX5 := hX.zero.bl (hb4.trans hb5)
      have hM5 := hM.zero.bl hb5
      clear hb03 hb4 hb5 hX hM
      go_wp2_with fail
      go_loopw [10] (fun i wr => Bl w5 wr ∧ ∃ k : Nat, k ≤ l.length ∧ i = .int .i64 k) (fun i _ => l.length - (intOf i).toNat)
      case atStart => exact ⟨Bl.refl _, 0, Nat.zero_le _, rfl⟩
      case round =>
        obtain ⟨hbl, k, hk, rfl⟩ := hrel
        by_cases hlt : k < l.length
        · have hR := hA.bl (hb05.trans hbl)
          obtain ⟨b, off, rfl, _, hb⟩ := hR.addr (by omega)
          obtain ⟨y, hy⟩ := get_lt hlt
          obtain ⟨_, hyo, c0, c1⟩ := hR.id hy
          have hki : (k : Int) < (l.length : Int) := by omega
          have kh := hide (khas.out X x y (List.mem_of_getElem? hy) hyo _ (hX5.bl hbl))
          clear hy
          go_wp2_with fail
          refine kh.out.mono ?_
          rintro e w6 ⟨rfl, hb6⟩
          go_wp2_with fail
          go_roundw
          case rel => exact ⟨hbl.trans hb6, k + 1, by omega, by go_num⟩
          case measure => simp [intOf]; omega
        · have hki : ¬ (k : Int) < (l.length : Int) := by omega
          go_wp2_with fail
          refine (kof.out M m _ (hM5.bl hbl)).mono ?_
          rintro e w6 ⟨Y, y, rfl, y1, y2, hY, hb6⟩
          go_wp2_with fail
          refine (ksame.out X x Y y _ (hX5.bl (hbl.trans hb6)) hY.zero).mono ?_
          rintro e w7 ⟨rfl, hb7⟩
          have hb07 := hb05.trans (hbl.trans (hb6.trans hb7))
          clear hbl hb6 hb7 hY hX5 hM5 hb05
          go_wp2_with fail
          refine (hic.out _ hb07).mono ?_
          rintro e v1 ⟨I, i, rfl, i1, i2, hI, hv1⟩
          have hvb1 := Bl.trans hb07 hv1
          go_wp2_with fail
          refine (hof2.out I i _ hI.zero).mono ?_
          rintro e v2 ⟨J, j, rfl, j1, j2, hJ, hv2⟩
          have hvb2 := hvb1.trans hv2
          go_wp2_with fail
          refine (hids2.out J j _ hJ.zero).mono ?_
          rintro e v3 ⟨K, kk, rfl, k1, k2, hK, hv3⟩
          have hvb3 := hvb2.trans hv3
          go_wp2_with fail
          refine (hsam2.out J j _ (hJ.zero.bl hv3) hvb3).mono ?_
          rintro e v4 ⟨rfl, hv4⟩
          have hvb4 := hvb3.trans hv4
          go_wp2_with fail
          refine (hsid2.out I i K kk _ (hI.zero.bl (hv2.trans (hv3.trans hv4))) (hK.zero.bl hv4)).mono ?_
          rintro e v5 ⟨rfl, hv5⟩
          have hvb5 := hvb4.trans hv5
          go_wp2_with fail
          go_ret
          exact ⟨rfl, hvb5⟩
    · rw [en] at pof
      generalize ofL l = X0 at *
      replace pof := hide pof
      clear en
      go_enter Try.func5, Try.ntmps5
      go_wp2_with fail
      refine (lawAlive08 _).mono ?_
      rintro e w1 ⟨rfl, hb1⟩
      go_wp2_with fail
      refine (hgc.out _ (by repeat first | assumption | exact Bl.refl _ | refine Bl.alloc ?_ _ | refine Bl.trans ?_ (by assumption))).mono ?_
      rintro e w2 ⟨q1, rfl, hfa, hb2⟩
      clear hfa
      cases q1
      rotate_left
      · go_wp2_with fail
        go_ret
        exact ⟨rfl, (by repeat first | assumption | exact Bl.refl _ | refine Bl.alloc ?_ _ | refine Bl.trans ?_ (by assumption))⟩
      go_wp2_with fail
      refine (pof.out _ (by repeat first | assumption | exact Bl.refl _ | refine Bl.alloc ?_ _ | refine Bl.trans ?_ (by assumption))).mono ?_
      rintro e w3 ⟨X, x, rfl, x1, x2, hX, hb3⟩
      have hb03 : Bl w w3 := (by repeat first | assumption | exact Bl.refl _ | refine Bl.alloc ?_ _ | refine Bl.trans ?_ (by assumption))
      clear hb1 hb2
      go_wp2_with fail
      refine (hic.out _ hb03).mono ?_
      rintro e v1 ⟨I, i, rfl, i1, i2, hI, hv1⟩
      have hvb1 := Bl.trans hb03 hv1
      go_wp2_with fail
      refine (hof2.out I i _ hI.zero).mono ?_
      rintro e v2 ⟨J, j, rfl, j1, j2, hJ, hv2⟩
      have hvb2 := hvb1.trans hv2
      go_wp2_with fail
      refine (hids2.out J j _ hJ.zero).mono ?_
      rintro e v3 ⟨K, kk, rfl, k1, k2, hK, hv3⟩
      have hvb3 := hvb2.trans hv3
      go_wp2_with fail
      refine (hsam2.out J j _ (hJ.zero.bl hv3) hvb3).mono ?_
      rintro e v4 ⟨rfl, hv4⟩
      have hvb4 := hvb3.trans hv4
      go_wp2_with fail
      refine (hsid2.out I i K kk _ (hI.zero.bl (hv2.trans (hv3.trans hv4))) (hK.zero.bl hv4)).mono ?_
      rintro e v5 ⟨rfl, hv5⟩
      have hvb5 := hvb4.trans hv5
      go_wp2_with fail
      go_ret
      exact ⟨rfl, hvb5⟩
  · rw [eb] at hic
    obtain ⟨N, hN, hN0⟩ : ∃ N, clockIdsErr t = N ∧ (N == (0 : Int)) = false := ⟨_, rfl, by rcases nb with h | h <;> rw [h] <;> rfl⟩
    have hN1 : (N != (0 : Int)) = true := by simp [bne, hN0]
    rw [hN] at hic
    clear eb nb hN
    replace hic := hide hic
    rcases ofN_cases hl0 with ⟨en, hm⟩ | en
    · have g := of_ids hl0 hm fun x hx => (hoks.out x hx).2.2.1
      rw [en] at pof
      generalize ofL l = X0 at *
      generalize clockAll X0 = M0 at *
      have kids := fun X x V (hX : R cTimes 0 V X X0) => clockIdsC X x X0 V (by have := g.lx; unfold maxLen; omega) hX
      rw [g.ids.1, g.ids.2] at kids
      have kcnt := fun X x V (hX : R cTimes 0 V X X0) => clockCountC X x X0 V (by have := g.lx; unfold maxLen; omega) hX
      rw [g.cnt] at kcnt
      have kof := fun X x V (hX : R cId 0 V X M0) => clockOf X x M0 V (by have := g.len; unfold maxLen; omega) hX
      rw [g.of.1, g.of.2] at kof
      have khas := hide fun X x y (hy : y ∈ l) (hyo : y.ok) V (hX : R cTimes 0 V X X0) => (show Calls Try.prog 36 #[.slice X X0.length x, .agg #[.int .u32 y.t, .int .u8 y.r]] V fun e w' => e = .returned (.bool true) ∧ Bl V w' by
        have h := clockHasC X x X0 y V (by have := g.lx; omega) hyo hX
        rwa [g.has y hy] at h)
      have ksame := hide fun X x Y y V (hX : R cTimes 0 V X X0) (hY : R cTimes 0 V Y X0) => clockSameSelf X0 (c := x) (d := y) (by have := g.lx; unfold maxLen; omega) hX hY
      have lx := g.lx
      have lm := g.len
      have lmi : (M0.length : Int) ≤ (l.length : Int) := by omega
      have lmn : decide (l.length < M0.length) = false := decide_eq_false (by omega)
      have e1 : ((M0.length : Int) != (M0.length : Int)) = false := by simp
      clear g hm en
      replace kids := hide kids
      replace kcnt := hide kcnt
      replace kof := hide kof
      replace pof := hide pof
      go_enter Try.func5, Try.ntmps5
      go_wp2_with fail
      refine (lawAlive08 _).mono ?_
      rintro e w1 ⟨rfl, hb1⟩
      go_wp2_with fail
      refine (hgc.out _ (by repeat first | assumption | exact Bl.refl _ | refine Bl.alloc ?_ _ | refine Bl.trans ?_ (by assumption))).mono ?_
      rintro e w2 ⟨q1, rfl, hfa, hb2⟩
      clear hfa
      cases q1
      rotate_left
      · go_wp2_with fail
        go_ret
        exact ⟨rfl, (by repeat first | assumption | exact Bl.refl _ | refine Bl.alloc ?_ _ | refine Bl.trans ?_ (by assumption))⟩
      go_wp2_with fail
      refine (pof.out _ (by repeat first | assumption | exact Bl.refl _ | refine Bl.alloc ?_ _ | refine Bl.trans ?_ (by assumption))).mono ?_
      rintro e w3 ⟨X, x, rfl, x1, x2, hX, hb3⟩
      have hb03 : Bl w w3 := (by repeat first | assumption | exact Bl.refl _ | refine Bl.alloc ?_ _ | refine Bl.trans ?_ (by assumption))
      clear hb1 hb2
      have lxm : X0.length ≤ maxLen := by unfold maxLen; omega
      go_wp2_with fail
      refine (kids.out X x _ hX.zero).mono ?_
      rintro e w4 ⟨M, m, rfl, m1, m2, hM, hb4⟩
      go_wp2_with fail
      refine (kcnt.out X x _ (hX.zero.bl hb4)).mono ?_
      rintro e w5 ⟨rfl, hb5⟩
      have hb05 := hb03.trans (hb4.trans hb5)
      have hX5 := hX.zero.bl (hb4.trans hb5)
      have hM5 := hM.zero.bl hb5
      clear hb03 hb4 hb5 hX hM
      go_wp2_with fail
      go_loopw [10] (fun i wr => Bl w5 wr ∧ ∃ k : Nat, k ≤ l.length ∧ i = .int .i64 k) (fun i _ => l.length - (intOf i).toNat)
      case atStart => exact ⟨Bl.refl _, 0, Nat.zero_le _, rfl⟩
      case round =>
        obtain ⟨hbl, k, hk, rfl⟩ := hrel
        by_cases hlt : k < l.length
        · have hR := hA.bl (hb05.trans hbl)
          obtain ⟨b, off, rfl, _, hb⟩ := hR.addr (by omega)
          obtain ⟨y, hy⟩ := get_lt hlt
          obtain ⟨_, hyo, c0, c1⟩ := hR.id hy
          have hki : (k : Int) < (l.length : Int) := by omega
          have kh := hide (khas.out X x y (List.mem_of_getElem? hy) hyo _ (hX5.bl hbl))
          clear hy
          go_wp2_with fail
          refine kh.out.mono ?_
          rintro e w6 ⟨rfl, hb6⟩
          go_wp2_with fail
          go_roundw
          case rel => exact ⟨hbl.trans hb6, k + 1, by omega, by go_num⟩
          case measure => simp [intOf]; omega
        · have hki : ¬ (k : Int) < (l.length : Int) := by omega
          go_wp2_with fail
          refine (kof.out M m _ (hM5.bl hbl)).mono ?_
          rintro e w6 ⟨Y, y, rfl, y1, y2, hY, hb6⟩
          go_wp2_with fail
          refine (ksame.out X x Y y _ (hX5.bl (hbl.trans hb6)) hY.zero).mono ?_
          rintro e w7 ⟨rfl, hb7⟩
          have hb07 := hb05.trans (hbl.trans (hb6.trans hb7))
          clear hbl hb6 hb7 hY hX5 hM5 hb05
          go_wp2_with fail
          refine (hic.out _ hb07).mono ?_
          rintro e v1 ⟨I, i, rfl, i1, i2, hI, hv1⟩
          have hvb1 := Bl.trans hb07 hv1
          go_wp2_with fail
          go_ret
          exact ⟨rfl, hvb1⟩
    · rw [en] at pof
      generalize ofL l = X0 at *
      replace pof := hide pof
      clear en
      go_enter Try.func5, Try.ntmps5
      go_wp2_with fail
      refine (lawAlive08 _).mono ?_
      rintro e w1 ⟨rfl, hb1⟩
      go_wp2_with fail
      refine (hgc.out _ (by repeat first | assumption | exact Bl.refl _ | refine Bl.alloc ?_ _ | refine Bl.trans ?_ (by assumption))).mono ?_
      rintro e w2 ⟨q1, rfl, hfa, hb2⟩
      clear hfa
      cases q1
      rotate_left
      · go_wp2_with fail
        go_ret
        exact ⟨rfl, (by repeat first | assumption | exact Bl.refl _ | refine Bl.alloc ?_ _ | refine Bl.trans ?_ (by assumption))⟩
      go_wp2_with fail
      refine (pof.out _ (by repeat first | assumption | exact Bl.refl _ | refine Bl.alloc ?_ _ | refine Bl.trans ?_ (by assumption))).mono ?_
      rintro e w3 ⟨X, x, rfl, x1, x2, hX, hb3⟩
      have hb03 : Bl w w3 := (by repeat first | assumption | exact Bl.refl _ | refine Bl.alloc ?_ _ | refine Bl.trans ?_ (by assumption))
      clear hb1 hb2
      go_wp2_with fail
      refine (hic.out _ hb03).mono ?_
      rintro e v1 ⟨I, i, rfl, i1, i2, hI, hv1⟩
      have hvb1 := Bl.trans hb03 hv1
      go_wp2_with fail
      go_ret
      exact ⟨rfl, hvb1⟩
end Go.Proofs.Ytkolimhkfiebeaa

/-
  The walks of the references of layer 8: One, told, Join, Less, Add; they answer as the program does.
-/
import Derived.Test.YtiimpmdnkjhcoaaRefClk
namespace Go.Proofs.Ytiimpmdnkjhcoaa
open Go.RowKit

/-! ### Plain -/

/-- Two clocks, replica by replica, as the references say. -/
def rcL (f : List Span → List Span → List Span) (a b : List Times) : List Times :=
  if clockMay a && clockMay b then (if eachOk (fun r => f (firstOf a r) (firstOf b r)) 8 then eachL (fun r => f (firstOf a r) (firstOf b r)) 8 else []) else []

def rcN (f : List Span → List Span → List Span) (a b : List Times) : Int :=
  if clockMay a && clockMay b then okOr 4 (eachOk (fun r => f (firstOf a r) (firstOf b r)) 8) else 8

theorem each_told {Ls Fs : Nat → List Span} {Ns : Nat → Int} (h : ∀ r, Ls r = toldL (Fs r) ∧ Ns r = toldN (Fs r)) : ∀ k, (eachOk Fs k = true ∧ eachN Ns k = 0 ∧ eachL Ls k = eachL Fs k) ∨ (eachOk Fs k = false ∧ eachN Ns k = 4)
  | 0 => .inl ⟨rfl, rfl, rfl⟩
  | k + 1 => by
    obtain ⟨h1, h2⟩ := h k
    unfold eachOk eachN eachL
    rcases each_told h k with ⟨e1, e2, e3⟩ | ⟨e1, e2⟩
    · rw [e1, e2, e3, h1, h2]
      unfold toldL toldN
      by_cases hl : 1024 < (Fs k).length
      · right
        simp [hl]
      · left
        simp [hl]
        omega
    · right
      rw [e1, e2]
      simp

theorem cset_eq (want : Bool → Bool → Bool) (f : List Span → List Span → List Span) (hf : ∀ x y, spansMay x = true → spansMay y = true → setL want x y = toldL (f x y) ∧ setN want x y = toldN (f x y)) (a b : List Times) : cSetL want a b = rcL f a b ∧ cSetN want a b = rcN f a b := by
  unfold cSetL cSetN rcL rcN outL
  cases h : clockMay a && clockMay b
  · exact ⟨rfl, rfl⟩
  · rw [Bool.and_eq_true] at h
    have hh : ∀ r : Nat, setL want (tabOf a r) (tabOf b r) = toldL (f (firstOf a r) (firstOf b r)) ∧ setN want (tabOf a r) (tabOf b r) = toldN (f (firstOf a r) (firstOf b r)) := fun r => by
      rw [tab_first h.1, tab_first h.2]
      exact hf _ _ (first_may h.1 r) (first_may h.2 r)
    rcases each_told hh 8 with ⟨e1, e2, e3⟩ | ⟨e1, e2⟩
    · rw [e1, e2, e3]; exact ⟨rfl, rfl⟩
    · rw [e1, e2]; exact ⟨rfl, rfl⟩

theorem cjoin_eq (a b : List Times) : cSetL orB a b = rcL bothF a b ∧ cSetN orB a b = rcN bothF a b :=
  cset_eq orB bothF (fun x y hx hy => by
    have h := join_eq x y
    rw [h.1, h.2]
    unfold rJoinL rJoinN
    rw [hx, hy]
    exact ⟨rfl, rfl⟩) a b

theorem cless_eq (a b : List Times) : cSetL lessB a b = rcL leftF a b ∧ cSetN lessB a b = rcN leftF a b :=
  cset_eq lessB leftF (fun x y hx hy => by
    have h := less_eq7 x y
    rw [h.1, h.2]
    unfold rLessL7 rLessN7
    rw [hx, hy]
    exact ⟨rfl, rfl⟩) a b

theorem one_may {x : Id} (hx : x.ok) : clockMay (oneT x) = idMay x := by
  unfold clockMay oneT clockFrom clockFrom idMay
  rw [may_one]
  unfold okX
  have := hx.2.2.1
  simp
  by_cases h1 : 1 ≤ x.t <;> by_cases h2 : x.t ≤ 1073741824 <;> by_cases h3 : x.r < 8 <;> simp [h1, h2, h3] <;> omega

/-! ### Walks -/

set_option maxRecDepth 100000 in
theorem refOne08 (x : Id) (w : World) (hx : x.ok) :
    Calls Try.prog 73 #[.agg #[.int .u32 x.t, .int .u8 x.r]] w fun e w' => ∃ A c, e = .returned (.slice A (oneT x).length c) ∧ (oneT x).length ≤ c ∧ c ≤ maxLen ∧ R cTimes w.heap.size w' A (oneT x) ∧ Bl w w' := by
  have h := R.oneT (w := w.alloc (.cells #[.int .u32 x.t, .int .u8 x.r] 39)) (lo := w.heap.size) x hx (by rw [World.size_alloc]; omega) 73 36
  rw [World.size_alloc w] at h
  replace h := hide h
  have hb : Bl w (((w.alloc (.cells #[.int .u32 x.t, .int .u8 x.r] 39)).alloc (.cells #[.int .u32 x.t, .int .u32 x.t] 36)).alloc (.cells #[.int .u8 x.r, .slice (some ⟨w.heap.size + 1, 0, none⟩) 1 1] 73)) := (((Bl.refl w).alloc _).alloc _).alloc _
  go_enter Try.func73, Try.ntmps73
  go_wp2
  go_ret
  exact ⟨_, 1, rfl, Nat.le_refl _, by decide, h.out, hb⟩

/-- What told says of a list that was just made. -/
theorem refTold08 (A : Option Addr) (c : Nat) (l L2 : List Times) (b : Bool) (N2 : Int) (w0 w : World) (hL : L2 = if b then l else []) (hN : N2 = okOr 4 b) (h1 : l.length ≤ c) (h2 : c ≤ maxLen) (hA : R cTimes w0.heap.size w A l) (hb : Bl w0 w) :
    Calls Try.prog 71 #[.slice A l.length c, .bool b] w (New2 cTimes L2 N2 w0) := by
  cases b
  · obtain rfl : L2 = [] := hL
    obtain rfl : N2 = 4 := hN
    go_enter Try.func71, Try.ntmps71
    go_wp2
    go_ret2
    exact ⟨none, 0, rfl, Nat.le_refl _, Nat.zero_le _, R.nil, hb⟩
  · obtain rfl : L2 = l := hL
    obtain rfl : N2 = 0 := hN
    go_enter Try.func71, Try.ntmps71
    go_wp2
    go_ret2
    exact ⟨A, c, rfl, h1, h2, hA, hb⟩

/-- What is behind the check: told of what was made. -/
def RcP (f : List Span → List Span → List Span) (a b : List Times) (w : World) (e : Ending) (w' : World) : Prop := New2 cTimes (rcL f a b) (rcN f a b) w e w'

theorem rc_bad {f : List Span → List Span → List Span} {a b : List Times} (h : (clockMay a && clockMay b) = false) : rcL f a b = [] ∧ rcN f a b = 8 := by
  unfold rcL rcN
  rw [h]
  exact ⟨rfl, rfl⟩

theorem rc_good {f : List Span → List Span → List Span} {a b : List Times} (h : (clockMay a && clockMay b) = true) : rcL f a b = (if eachOk (fun r => f (firstOf a r) (firstOf b r)) 8 then eachL (fun r => f (firstOf a r) (firstOf b r)) 8 else []) ∧ rcN f a b = okOr 4 (eachOk (fun r => f (firstOf a r) (firstOf b r)) 8) := by
  unfold rcL rcN
  rw [h]
  exact ⟨rfl, rfl⟩

set_option maxRecDepth 100000 in
set_option maxHeartbeats 1000000 in
theorem refJoin08 (A B : Option Addr) (c d : Nat) (a b : List Times) (w : World) (hl : a.length ≤ maxLen) (hm : b.length ≤ maxLen) (hA : R cTimes 0 w A a) (hB : R cTimes 0 w B b) :
    Calls Try.prog 29 #[.slice A a.length c, .slice B b.length d] w (New2 cTimes (rcL bothF a b) (rcN bothF a b) w) := by
  have hma := fun V (hb : Bl w V) => refMay08 A c a V hl (hA.bl hb)
  have hmb := fun V (hb : Bl w V) => refMay08 B d b V hm (hB.bl hb)
  cases ha : clockMay a
  · have hbad : (clockMay a && clockMay b) = false := by rw [ha]; rfl
    rw [(rc_bad hbad).1, (rc_bad hbad).2]
    rw [ha] at hma
    replace hma := hide hma
    clear hbad ha hmb
    go_enter Try.func29, Try.ntmps29
    go_wp2_with fail
    refine (hma.out _ (Bl.refl _)).mono ?_
    rintro e w1 ⟨rfl, hb1⟩
    go_wp2_with fail
    go_ret2
    exact ⟨none, 0, rfl, Nat.le_refl _, Nat.zero_le _, R.nil, hb1⟩
  cases hb : clockMay b
  · have hbad : (clockMay a && clockMay b) = false := by rw [hb, Bool.and_false]
    rw [(rc_bad hbad).1, (rc_bad hbad).2]
    rw [ha] at hma
    rw [hb] at hmb
    replace hma := hide hma
    replace hmb := hide hmb
    clear hbad ha hb
    go_enter Try.func29, Try.ntmps29
    go_wp2_with fail
    refine (hma.out _ (Bl.refl _)).mono ?_
    rintro e w1 ⟨rfl, hb1⟩
    go_wp2_with fail
    refine (hmb.out _ hb1).mono ?_
    rintro e w2 ⟨rfl, hb2⟩
    go_wp2_with fail
    go_ret2
    exact ⟨none, 0, rfl, Nat.le_refl _, Nat.zero_le _, R.nil, hb1.trans hb2⟩
  · have hgood : (clockMay a && clockMay b) = true := by rw [ha, hb]; rfl
    rw [(rc_good hgood).1, (rc_good hgood).2]
    have hbo := fun V (hv : Bl w V) => refBoth08 A B c d a b V hl hm (fit_may ha hb) (hA.bl hv) (hB.bl hv)
    rw [ha] at hma
    rw [hb] at hmb
    replace hma := hide hma
    replace hmb := hide hmb
    clear hgood ha hb
    generalize eachOk _ 8 = q at *
    generalize eachL _ 8 = L at *
    obtain ⟨L2, hL2⟩ : ∃ L2, L2 = if q then L else [] := ⟨_, rfl⟩
    obtain ⟨N2, hN2⟩ : ∃ N2, N2 = okOr 4 q := ⟨_, rfl⟩
    rw [← hL2, ← hN2]
    replace hL2 := hide hL2
    replace hN2 := hide hN2
    replace hbo := hide hbo
    go_enter Try.func29, Try.ntmps29
    go_wp2_with fail
    refine (hma.out _ (Bl.refl _)).mono ?_
    rintro e w1 ⟨rfl, hb1⟩
    go_wp2_with fail
    refine (hmb.out _ hb1).mono ?_
    rintro e w2 ⟨rfl, hb2⟩
    have hb02 := hb1.trans hb2
    go_wp2_with fail
    refine (hbo.out _ hb02).mono ?_
    rintro e w4 ⟨X, y, rfl, x1, x2, hX, hb4⟩
    go_wp2_with fail
    refine (refTold08 X y L L2 q N2 w _ hL2.out hN2.out x1 x2 (hX.more hb02.size) (hb02.trans hb4)).mono ?_
    rintro e w5 ⟨Z, z, rfl, z1, z2, hZ, hb5⟩
    go_wp2_with fail
    go_ret2
    exact ⟨Z, z, rfl, z1, z2, hZ, hb5⟩

set_option maxRecDepth 100000 in
set_option maxHeartbeats 1000000 in
theorem refLess08 (A B : Option Addr) (c d : Nat) (a b : List Times) (w : World) (hl : a.length ≤ maxLen) (hm : b.length ≤ maxLen) (hA : R cTimes 0 w A a) (hB : R cTimes 0 w B b) :
    Calls Try.prog 31 #[.slice A a.length c, .slice B b.length d] w (New2 cTimes (rcL leftF a b) (rcN leftF a b) w) := by
  have hma := fun V (hb : Bl w V) => refMay08 A c a V hl (hA.bl hb)
  have hmb := fun V (hb : Bl w V) => refMay08 B d b V hm (hB.bl hb)
  cases ha : clockMay a
  · have hbad : (clockMay a && clockMay b) = false := by rw [ha]; rfl
    rw [(rc_bad hbad).1, (rc_bad hbad).2]
    rw [ha] at hma
    replace hma := hide hma
    clear hbad ha hmb
    go_enter Try.func31, Try.ntmps31
    go_wp2_with fail
    refine (hma.out _ (Bl.refl _)).mono ?_
    rintro e w1 ⟨rfl, hb1⟩
    go_wp2_with fail
    go_ret2
    exact ⟨none, 0, rfl, Nat.le_refl _, Nat.zero_le _, R.nil, hb1⟩
  cases hb : clockMay b
  · have hbad : (clockMay a && clockMay b) = false := by rw [hb, Bool.and_false]
    rw [(rc_bad hbad).1, (rc_bad hbad).2]
    rw [ha] at hma
    rw [hb] at hmb
    replace hma := hide hma
    replace hmb := hide hmb
    clear hbad ha hb
    go_enter Try.func31, Try.ntmps31
    go_wp2_with fail
    refine (hma.out _ (Bl.refl _)).mono ?_
    rintro e w1 ⟨rfl, hb1⟩
    go_wp2_with fail
    refine (hmb.out _ hb1).mono ?_
    rintro e w2 ⟨rfl, hb2⟩
    go_wp2_with fail
    go_ret2
    exact ⟨none, 0, rfl, Nat.le_refl _, Nat.zero_le _, R.nil, hb1.trans hb2⟩
  · have hgood : (clockMay a && clockMay b) = true := by rw [ha, hb]; rfl
    rw [(rc_good hgood).1, (rc_good hgood).2]
    have hbo := fun V (hv : Bl w V) => refLeft08 A B c d a b V hl hm (fit_may ha hb) (hA.bl hv) (hB.bl hv)
    rw [ha] at hma
    rw [hb] at hmb
    replace hma := hide hma
    replace hmb := hide hmb
    clear hgood ha hb
    generalize eachOk _ 8 = q at *
    generalize eachL _ 8 = L at *
    obtain ⟨L2, hL2⟩ : ∃ L2, L2 = if q then L else [] := ⟨_, rfl⟩
    obtain ⟨N2, hN2⟩ : ∃ N2, N2 = okOr 4 q := ⟨_, rfl⟩
    rw [← hL2, ← hN2]
    replace hL2 := hide hL2
    replace hN2 := hide hN2
    replace hbo := hide hbo
    go_enter Try.func31, Try.ntmps31
    go_wp2_with fail
    refine (hma.out _ (Bl.refl _)).mono ?_
    rintro e w1 ⟨rfl, hb1⟩
    go_wp2_with fail
    refine (hmb.out _ hb1).mono ?_
    rintro e w2 ⟨rfl, hb2⟩
    have hb02 := hb1.trans hb2
    go_wp2_with fail
    refine (hbo.out _ hb02).mono ?_
    rintro e w4 ⟨X, y, rfl, x1, x2, hX, hb4⟩
    go_wp2_with fail
    refine (refTold08 X y L L2 q N2 w _ hL2.out hN2.out x1 x2 (hX.more hb02.size) (hb02.trans hb4)).mono ?_
    rintro e w5 ⟨Z, z, rfl, z1, z2, hZ, hb5⟩
    go_wp2_with fail
    go_ret2
    exact ⟨Z, z, rfl, z1, z2, hZ, hb5⟩

set_option maxRecDepth 100000 in
set_option maxHeartbeats 1000000 in
theorem refAdd08 (A : Option Addr) (c : Nat) (a : List Times) (x : Id) (w : World) (hl : a.length ≤ maxLen) (hx : x.ok) (hA : R cTimes 0 w A a) :
    Calls Try.prog 27 #[.slice A a.length c, .agg #[.int .u32 x.t, .int .u8 x.r]] w (New2 cTimes (rcL bothF a (oneT x)) (rcN bothF a (oneT x)) w) := by
  have hma := fun V (hb : Bl w V) => refMay08 A c a V hl (hA.bl hb)
  have hmx := fun V => refMay05 x V
  have h1 := hide fun V => refOne08 x V hx
  have hom := one_may hx
  have hlen : (oneT x).length ≤ maxLen := by simp [oneT, maxLen]
  cases ha : clockMay a
  · have hbad : (clockMay a && clockMay (oneT x)) = false := by rw [ha]; rfl
    rw [(rc_bad hbad).1, (rc_bad hbad).2]
    rw [ha] at hma
    replace hma := hide hma
    clear hbad ha hom hmx hlen
    go_enter Try.func27, Try.ntmps27
    go_wp2_with fail
    refine (hma.out _ ((Bl.refl _).alloc _)).mono ?_
    rintro e w1 ⟨rfl, hb1⟩
    go_wp2_with fail
    go_ret2
    exact ⟨none, 0, rfl, Nat.le_refl _, Nat.zero_le _, R.nil, ((Bl.refl _).alloc _).trans hb1⟩
  cases ho : idMay x
  · have hbad : (clockMay a && clockMay (oneT x)) = false := by rw [hom, ho, Bool.and_false]
    rw [(rc_bad hbad).1, (rc_bad hbad).2]
    rw [ha] at hma
    rw [ho] at hmx
    replace hma := hide hma
    replace hmx := hide hmx
    clear hbad ha hom ho hlen
    have at0 := IdBox.new w x 39
    go_enter Try.func27, Try.ntmps27
    go_wp2_with fail
    refine (hma.out _ ((Bl.refl _).alloc _)).mono ?_
    rintro e w1 ⟨rfl, hb1⟩
    obtain ⟨X0, X1, -, -⟩ := at0.bl hb1
    go_wp2_with fail
    refine (hmx.out _).mono ?_
    rintro e w2 ⟨rfl, hb2⟩
    go_wp2_with fail
    go_ret2
    exact ⟨none, 0, rfl, Nat.le_refl _, Nat.zero_le _, R.nil, (((Bl.refl _).alloc _).trans hb1).trans hb2⟩
  · have hgood : (clockMay a && clockMay (oneT x)) = true := by rw [hom, ho, ha]; rfl
    rw [(rc_good hgood).1, (rc_good hgood).2]
    have hbo := fun B d V (hb : Bl w V) (hB : R cTimes 0 V B (oneT x)) => refBoth08 A B c d a (oneT x) V hl hlen (fit_may ha (hom.trans ho)) (hA.bl hb) hB
    rw [ha] at hma
    rw [ho] at hmx
    replace hma := hide hma
    replace hmx := hide hmx
    clear hgood ha hom ho hlen
    generalize eachOk (fun r => bothF (firstOf a r) (firstOf (oneT x) r)) 8 = q at *
    generalize eachL (fun r => bothF (firstOf a r) (firstOf (oneT x) r)) 8 = L at *
    generalize oneT x = O at *
    obtain ⟨L2, hL2⟩ : ∃ L2, L2 = if q then L else [] := ⟨_, rfl⟩
    obtain ⟨N2, hN2⟩ : ∃ N2, N2 = okOr 4 q := ⟨_, rfl⟩
    rw [← hL2, ← hN2]
    replace hL2 := hide hL2
    replace hN2 := hide hN2
    replace hbo := hide hbo
    have at0 := IdBox.new w x 39
    go_enter Try.func27, Try.ntmps27
    go_wp2_with fail
    refine (hma.out _ ((Bl.refl _).alloc _)).mono ?_
    rintro e w1 ⟨rfl, hb1⟩
    obtain ⟨X0, X1, -, -⟩ := at0.bl hb1
    go_wp2_with fail
    refine (hmx.out _).mono ?_
    rintro e w2 ⟨rfl, hb2⟩
    have hb02 := (((Bl.refl w).alloc _).trans hb1).trans hb2
    obtain ⟨Y0, Y1, -, -⟩ := at0.bl (hb1.trans hb2)
    clear X0 X1
    go_wp2_with fail
    refine (h1.out _).mono ?_
    rintro e w3 ⟨B, d, rfl, p1, p2, hB, hb3⟩
    have hb03 := hb02.trans hb3
    clear Y0 Y1
    go_wp2_with fail
    refine (hbo.out B d _ hb03 hB.zero).mono ?_
    rintro e w4 ⟨X, y, rfl, x1, x2, hX, hb4⟩
    go_wp2_with fail
    refine (refTold08 X y L L2 q N2 w _ hL2.out hN2.out x1 x2 (hX.more hb03.size) (hb03.trans hb4)).mono ?_
    rintro e w5 ⟨Z, z, rfl, z1, z2, hZ, hb5⟩
    go_wp2_with fail
    go_ret2
    exact ⟨Z, z, rfl, z1, z2, hZ, hb5⟩
end Go.Proofs.Ytiimpmdnkjhcoaa

/-
  References of layer 7: Both, Left, told, Add, Join, Less, Check, Has, Count.
-/
import Derived.Test.YtiimpmdnkjhcoaaRefSet2
namespace Go.Proofs.Ytiimpmdnkjhcoaa
open Go.RowKit

theorem both_step {a b : List Span} {k : Nat} {y : Span} (h : b[k]? = some y) : bothF a (b.take (k + 1)) = withF (bothF a (b.take k)) y := by
  unfold bothF
  rw [take_snoc h, List.foldl_append]
  rfl

theorem left_step {a b : List Span} {k : Nat} {y : Span} (h : b[k]? = some y) : leftF a (b.take (k + 1)) = withoutF (leftF a (b.take k)) y := by
  unfold leftF
  rw [take_snoc h, List.foldl_append]
  rfl

theorem both_from {a : List Span} : ∀ {b : List Span}, (∀ y ∈ b, okS y) → ∀ a, spansFrom 1 a = true → spansFrom 1 (bothF a b) = true
  | [], _, _, h => h
  | y :: b, hb, _, h => by
    obtain ⟨h1, h2, h3⟩ := hb y (List.mem_cons_self ..)
    exact both_from (a := a) (b := b) (fun z hz => hb z (List.mem_cons_of_mem _ hz)) _ (with_from h h1 h2 h3)

theorem left_from : ∀ {b : List Span}, (∀ y ∈ b, okS y) → ∀ a, spansFrom 1 a = true → spansFrom 1 (leftF a b) = true
  | [], _, _, h => h
  | y :: b, hb, _, h => left_from (b := b) (fun z hz => hb z (List.mem_cons_of_mem _ hz)) _ (without_from h (hb y (List.mem_cons_self ..)).2.1)

set_option maxRecDepth 100000 in
set_option maxHeartbeats 1000000 in
theorem refBoth07 (A B : Option Addr) (c d : Nat) (a b : List Span) (w : World) (hl : a.length ≤ 1048576) (hm : b.length ≤ maxLen) (ha : spansFrom 1 a = true) (hb : ∀ y ∈ b, okS y) (hA : R cSpan 0 w A a) (hB : R cSpan 0 w B b) :
    Calls Try.prog 80 #[.slice A a.length c, .slice B b.length d] w (New cSpan (bothF a b) w) := by
  unfold maxLen at hm
  replace hb := hide hb
  replace ha := hide ha
  go_enter Try.func80, Try.ntmps80
  go_wp2_with fail
  refine (refTwin07 A c a _ hl hA).mono ?_
  rintro e w1 ⟨X, x, rfl, x1, x2, hX, hb1⟩
  go_wp2_with fail
  go_loopw [5, 6] (fun v5 v6 wr => Bl w wr ∧ ∃ k : Nat, k ≤ b.length ∧ v6 = .int .i64 k ∧ ∃ L A5 c5, v5 = .slice A5 L.length c5 ∧ L.length ≤ c5 ∧ c5 ≤ maxLen ∧ R cSpan w.heap.size wr A5 L ∧ Hid (L = bothF a (b.take k) ∧ spansFrom 1 L = true)) (fun _ v6 _ => b.length - (intOf v6).toNat)
  case atStart => exact ⟨hb1, 0, Nat.zero_le _, rfl, a, X, x, rfl, x1, x2, hX, rfl, ha.out⟩
  case round =>
    obtain ⟨hbl, k, hk, rfl, L, A5, c5, rfl, h51, h52, hL, hf⟩ := hrel
    by_cases hlt : k < b.length
    · have hBr := hB.bl hbl
      obtain ⟨bb, off, rfl, -, hbb⟩ := hBr.addr (by omega)
      obtain ⟨y, hy⟩ := get_lt hlt
      obtain ⟨-, -, c0, c1⟩ := hBr.span hy
      have hy2 := hb.out y (List.mem_of_getElem? hy)
      have hst := hide (both_step (a := a) hy)
      clear hy
      have hki : (k : Int) < (b.length : Int) := by omega
      have hw := hide (refWith07 A5 c5 L y wr hf.out.2 hy2 hL.zero)
      go_wp2_with fail
      refine hw.out.mono ?_
      rintro e w2 ⟨A6, c6, rfl, h61, h62, hr6, hb2⟩
      go_wp2
      go_roundw
      case rel =>
        obtain ⟨hy1, hy3, hy4⟩ := hy2
        exact ⟨hbl.trans hb2, k + 1, by omega, by go_num, _, A6, c6, rfl, h61, h62, hr6.more hbl.size, by rw [hst.out, hf.out.1], with_from hf.out.2 hy1 hy3 hy4⟩
      case measure => simp [intOf]; omega
    · have hkl : k = b.length := by omega
      subst hkl
      have hfin := hf.out.1
      rw [List.take_length] at hfin
      subst hfin
      have hki : ¬ ((b.length : Int) < (b.length : Int)) := by omega
      clear hf
      go_wp2
      go_ret
      exact ⟨A5, c5, rfl, h51, h52, hL, hbl⟩

set_option maxRecDepth 100000 in
set_option maxHeartbeats 1000000 in
theorem refLeft07 (A B : Option Addr) (c d : Nat) (a b : List Span) (w : World) (hl : a.length ≤ 1048576) (hm : b.length ≤ maxLen) (ha : spansFrom 1 a = true) (hb : ∀ y ∈ b, okS y) (hA : R cSpan 0 w A a) (hB : R cSpan 0 w B b) :
    Calls Try.prog 81 #[.slice A a.length c, .slice B b.length d] w (New cSpan (leftF a b) w) := by
  unfold maxLen at hm
  replace hb := hide hb
  replace ha := hide ha
  go_enter Try.func81, Try.ntmps81
  go_wp2_with fail
  refine (refTwin07 A c a _ hl hA).mono ?_
  rintro e w1 ⟨X, x, rfl, x1, x2, hX, hb1⟩
  go_wp2_with fail
  go_loopw [5, 6] (fun v5 v6 wr => Bl w wr ∧ ∃ k : Nat, k ≤ b.length ∧ v6 = .int .i64 k ∧ ∃ L A5 c5, v5 = .slice A5 L.length c5 ∧ L.length ≤ c5 ∧ c5 ≤ maxLen ∧ R cSpan w.heap.size wr A5 L ∧ Hid (L = leftF a (b.take k) ∧ spansFrom 1 L = true)) (fun _ v6 _ => b.length - (intOf v6).toNat)
  case atStart => exact ⟨hb1, 0, Nat.zero_le _, rfl, a, X, x, rfl, x1, x2, hX, rfl, ha.out⟩
  case round =>
    obtain ⟨hbl, k, hk, rfl, L, A5, c5, rfl, h51, h52, hL, hf⟩ := hrel
    by_cases hlt : k < b.length
    · have hBr := hB.bl hbl
      obtain ⟨bb, off, rfl, -, hbb⟩ := hBr.addr (by omega)
      obtain ⟨y, hy⟩ := get_lt hlt
      obtain ⟨-, -, c0, c1⟩ := hBr.span hy
      have hy2 := hb.out y (List.mem_of_getElem? hy)
      have hst := hide (left_step (a := a) hy)
      clear hy
      have hki : (k : Int) < (b.length : Int) := by omega
      have hw := hide (refWithout07 A5 c5 L y wr hf.out.2 hy2 hL.zero)
      go_wp2_with fail
      refine hw.out.mono ?_
      rintro e w2 ⟨A6, c6, rfl, h61, h62, hr6, hb2⟩
      go_wp2
      go_roundw
      case rel => exact ⟨hbl.trans hb2, k + 1, by omega, by go_num, _, A6, c6, rfl, h61, h62, hr6.more hbl.size, by rw [hst.out, hf.out.1], without_from hf.out.2 hy2.2.1⟩
      case measure => simp [intOf]; omega
    · have hkl : k = b.length := by omega
      subst hkl
      have hfin := hf.out.1
      rw [List.take_length] at hfin
      subst hfin
      have hki : ¬ ((b.length : Int) < (b.length : Int)) := by omega
      clear hf
      go_wp2
      go_ret
      exact ⟨A5, c5, rfl, h51, h52, hL, hbl⟩

/-- A call that hands back a list that it was given, or none, and an error. -/
def ToldP (A : Option Addr) (c : Nat) (l : List Span) (w : World) (e : Ending) (w' : World) : Prop := e = .returned (.tuple #[.slice (if 1024 < l.length then none else A) (toldL l).length (if 1024 < l.length then 0 else c), .int .i64 (toldN l)]) ∧ w' = w

theorem refTold07 (A : Option Addr) (c : Nat) (l : List Span) (w : World) :
    Calls Try.prog 78 #[.slice A l.length c] w (ToldP A c l w) := by
  by_cases h : 1024 < l.length
  · have e1 : toldL l = [] := by unfold toldL; rw [if_pos h]
    have e2 : toldN l = 4 := by unfold toldN; rw [if_pos h]
    unfold ToldP
    rw [e1, e2, if_pos h, if_pos h]
    clear e1 e2
    have hi : (1024 : Int) < (l.length : Int) := by omega
    go_enter Try.func78, Try.ntmps78
    go_wp2
    go_ret2
    exact ⟨rfl, rfl⟩
  · have e1 : toldL l = l := by unfold toldL; rw [if_neg h]
    have e2 : toldN l = 0 := by unfold toldN; rw [if_neg h]
    unfold ToldP
    rw [e1, e2, if_neg h, if_neg h]
    clear e1 e2
    have hi : ¬ (1024 : Int) < (l.length : Int) := by omega
    go_enter Try.func78, Try.ntmps78
    go_wp2
    go_ret2
    exact ⟨rfl, rfl⟩

theorem told_new {A : Option Addr} {c : Nat} {l : List Span} {w w1 w2 : World} {e : Ending} (h : ToldP A c l w1 e w2) (h1 : l.length ≤ c) (h2 : c ≤ maxLen) (hr : R cSpan w.heap.size w1 A l) (hb : Bl w w1) : New2 cSpan (toldL l) (toldN l) w e w2 := by
  obtain ⟨rfl, rfl⟩ := h
  refine ⟨_, _, rfl, ?_, ?_, ?_, hb⟩
  · unfold toldL; split <;> simp [*]
  · split
    · exact Nat.zero_le _
    · exact h2
  · unfold toldL
    split
    · exact R.nil
    · exact hr

theorem may_from {l : List Span} (h : spansMay l = true) : spansFrom 1 l = true ∧ l.length ≤ 1024 := by
  unfold spansMay at h
  rw [Bool.and_eq_true, decide_eq_true_eq] at h
  exact ⟨h.2, h.1⟩

theorem okX_iff {x : Span} : okX x = true ↔ okS x := by
  unfold okX okS
  simp only [Bool.and_eq_true, decide_eq_true_eq]
  constructor
  · rintro ⟨⟨h1, h2⟩, h3⟩; exact ⟨h1, h2, h3⟩
  · rintro ⟨h1, h2, h3⟩; exact ⟨⟨h1, h2⟩, h3⟩

set_option maxHeartbeats 1000000 in
theorem refJoin07 (A B : Option Addr) (c d : Nat) (a b : List Span) (w : World) (hl : a.length ≤ maxLen) (hm : b.length ≤ maxLen) (hA : R cSpan 0 w A a) (hB : R cSpan 0 w B b) :
    Calls Try.prog 37 #[.slice A a.length c, .slice B b.length d] w (New2 cSpan (rJoinL a b) (rJoinN a b) w) := by
  have h1 := hide (refMay07 A c a w hl hA)
  have h2 := hide (fun V (hb : Bl w V) => refMay07 B d b V hm (hB.bl hb))
  cases ha : spansMay a
  · have e1 : rJoinL a b = [] := by unfold rJoinL; rw [ha]; rfl
    have e2 : rJoinN a b = 8 := by unfold rJoinN; rw [ha]; rfl
    rw [e1, e2]
    clear e1 e2
    go_enter Try.func37, Try.ntmps37
    go_wp2_with fail
    refine h1.out.mono ?_
    rintro e w1 ⟨rfl, hb1⟩
    rw [ha]
    go_wp2
    go_ret2
    exact ⟨none, 0, rfl, Nat.le_refl _, Nat.zero_le _, R.nil, hb1⟩
  · cases hb : spansMay b
    · have e1 : rJoinL a b = [] := by unfold rJoinL; rw [ha, hb]; rfl
      have e2 : rJoinN a b = 8 := by unfold rJoinN; rw [ha, hb]; rfl
      rw [e1, e2]
      clear e1 e2
      go_enter Try.func37, Try.ntmps37
      go_wp2_with fail
      refine h1.out.mono ?_
      rintro e w1 ⟨rfl, hb1⟩
      rw [ha]
      replace ha := hide ha
      go_wp2_with fail
      refine (h2.out _ hb1).mono ?_
      rintro e w2 ⟨rfl, hb2⟩
      rw [hb]
      go_wp2
      go_ret2
      exact ⟨none, 0, rfl, Nat.le_refl _, Nat.zero_le _, R.nil, hb1.trans hb2⟩
    · have e1 : rJoinL a b = toldL (bothF a b) := by unfold rJoinL; rw [ha, hb]; rfl
      have e2 : rJoinN a b = toldN (bothF a b) := by unfold rJoinN; rw [ha, hb]; rfl
      rw [e1, e2]
      clear e1 e2
      obtain ⟨a1, a2⟩ := may_from ha
      obtain ⟨b1, b2⟩ := may_from hb
      have h3 := hide (fun V (hv : Bl w V) => refBoth07 A B c d a b V (by omega) hm a1 (from_ok b1) (hA.bl hv) (hB.bl hv))
      clear a1 b1
      go_enter Try.func37, Try.ntmps37
      go_wp2_with fail
      refine h1.out.mono ?_
      rintro e w1 ⟨rfl, hb1⟩
      rw [ha]
      replace ha := hide ha
      go_wp2_with fail
      refine (h2.out _ hb1).mono ?_
      rintro e w2 ⟨rfl, hb2⟩
      rw [hb]
      replace hb := hide hb
      go_wp2_with fail
      have hb12 := hb1.trans hb2
      refine (h3.out _ hb12).mono ?_
      rintro e w3 ⟨A3, c3, rfl, g1, g2, hr3, hb3⟩
      generalize bothF a b = L at *
      go_wp2_with fail
      refine (refTold07 A3 c3 L _).mono ?_
      rintro e w4 h4
      obtain ⟨A5, c5, rfl, k1, k2, k3, k4⟩ := told_new (w := w2) h4 g1 g2 hr3 hb3
      go_wp2
      go_ret2
      exact ⟨A5, c5, rfl, k1, k2, k3.more hb12.size, hb12.trans k4⟩

set_option maxHeartbeats 1000000 in
theorem refLess07 (A B : Option Addr) (c d : Nat) (a b : List Span) (w : World) (hl : a.length ≤ maxLen) (hm : b.length ≤ maxLen) (hA : R cSpan 0 w A a) (hB : R cSpan 0 w B b) :
    Calls Try.prog 38 #[.slice A a.length c, .slice B b.length d] w (New2 cSpan (rLessL7 a b) (rLessN7 a b) w) := by
  have h1 := hide (refMay07 A c a w hl hA)
  have h2 := hide (fun V (hb : Bl w V) => refMay07 B d b V hm (hB.bl hb))
  cases ha : spansMay a
  · have e1 : rLessL7 a b = [] := by unfold rLessL7; rw [ha]; rfl
    have e2 : rLessN7 a b = 8 := by unfold rLessN7; rw [ha]; rfl
    rw [e1, e2]
    clear e1 e2
    go_enter Try.func38, Try.ntmps38
    go_wp2_with fail
    refine h1.out.mono ?_
    rintro e w1 ⟨rfl, hb1⟩
    rw [ha]
    go_wp2
    go_ret2
    exact ⟨none, 0, rfl, Nat.le_refl _, Nat.zero_le _, R.nil, hb1⟩
  · cases hb : spansMay b
    · have e1 : rLessL7 a b = [] := by unfold rLessL7; rw [ha, hb]; rfl
      have e2 : rLessN7 a b = 8 := by unfold rLessN7; rw [ha, hb]; rfl
      rw [e1, e2]
      clear e1 e2
      go_enter Try.func38, Try.ntmps38
      go_wp2_with fail
      refine h1.out.mono ?_
      rintro e w1 ⟨rfl, hb1⟩
      rw [ha]
      replace ha := hide ha
      go_wp2_with fail
      refine (h2.out _ hb1).mono ?_
      rintro e w2 ⟨rfl, hb2⟩
      rw [hb]
      go_wp2
      go_ret2
      exact ⟨none, 0, rfl, Nat.le_refl _, Nat.zero_le _, R.nil, hb1.trans hb2⟩
    · have e1 : rLessL7 a b = toldL (leftF a b) := by unfold rLessL7; rw [ha, hb]; rfl
      have e2 : rLessN7 a b = toldN (leftF a b) := by unfold rLessN7; rw [ha, hb]; rfl
      rw [e1, e2]
      clear e1 e2
      obtain ⟨a1, a2⟩ := may_from ha
      obtain ⟨b1, b2⟩ := may_from hb
      have h3 := hide (fun V (hv : Bl w V) => refLeft07 A B c d a b V (by omega) hm a1 (from_ok b1) (hA.bl hv) (hB.bl hv))
      clear a1 b1
      go_enter Try.func38, Try.ntmps38
      go_wp2_with fail
      refine h1.out.mono ?_
      rintro e w1 ⟨rfl, hb1⟩
      rw [ha]
      replace ha := hide ha
      go_wp2_with fail
      refine (h2.out _ hb1).mono ?_
      rintro e w2 ⟨rfl, hb2⟩
      rw [hb]
      replace hb := hide hb
      go_wp2_with fail
      have hb12 := hb1.trans hb2
      refine (h3.out _ hb12).mono ?_
      rintro e w3 ⟨A3, c3, rfl, g1, g2, hr3, hb3⟩
      generalize leftF a b = L at *
      go_wp2_with fail
      refine (refTold07 A3 c3 L _).mono ?_
      rintro e w4 h4
      obtain ⟨A5, c5, rfl, k1, k2, k3, k4⟩ := told_new (w := w2) h4 g1 g2 hr3 hb3
      go_wp2
      go_ret2
      exact ⟨A5, c5, rfl, k1, k2, k3.more hb12.size, hb12.trans k4⟩

set_option maxHeartbeats 1000000 in
theorem refAdd07 (A : Option Addr) (c : Nat) (l : List Span) (x : Span) (w : World) (hl : l.length ≤ maxLen) (hx : x.ok) (hA : R cSpan 0 w A l) :
    Calls Try.prog 36 #[.slice A l.length c, .int .u32 x.f, .int .u32 x.t] w (New2 cSpan (rAddL7 l x) (rAddN7 l x) w) := by
  have h1 := hide (refMay07 A c l w hl hA)
  obtain ⟨o1, o2, o3, o4⟩ := hx
  cases ha : spansMay l
  · have e1 : rAddL7 l x = [] := by unfold rAddL7; rw [ha]; rfl
    have e2 : rAddN7 l x = 8 := by unfold rAddN7; rw [ha]; rfl
    rw [e1, e2]
    clear e1 e2
    go_enter Try.func36, Try.ntmps36
    go_wp2_with fail
    refine h1.out.mono ?_
    rintro e w1 ⟨rfl, hb1⟩
    rw [ha]
    go_wp2
    go_ret2
    exact ⟨none, 0, rfl, Nat.le_refl _, Nat.zero_le _, R.nil, hb1⟩
  · cases ho : okX x
    · have e1 : rAddL7 l x = [] := by unfold rAddL7; rw [ha, ho]; rfl
      have e2 : rAddN7 l x = 2 := by unfold rAddN7; rw [ha, ho]; rfl
      rw [e1, e2]
      clear e1 e2
      have hno : x.f < 1 ∨ x.t < x.f ∨ 1073741824 < x.t := by
        unfold okX at ho
        by_cases k1 : 1 ≤ x.f <;> by_cases k2 : x.f ≤ x.t <;> by_cases k3 : x.t ≤ 1073741824 <;> simp_all <;> omega
      clear ho
      by_cases k1 : x.f < 1
      · go_enter Try.func36, Try.ntmps36
        go_wp2_with fail
        refine h1.out.mono ?_
        rintro e w1 ⟨rfl, hb1⟩
        rw [ha]
        replace ha := hide ha
        replace hno := hide hno
        go_wp2
        go_ret2
        exact ⟨none, 0, rfl, Nat.le_refl _, Nat.zero_le _, R.nil, hb1⟩
      · by_cases k2 : x.t < x.f
        · go_enter Try.func36, Try.ntmps36
          go_wp2_with fail
          refine h1.out.mono ?_
          rintro e w1 ⟨rfl, hb1⟩
          rw [ha]
          replace ha := hide ha
          replace hno := hide hno
          go_wp2
          go_ret2
          exact ⟨none, 0, rfl, Nat.le_refl _, Nat.zero_le _, R.nil, hb1⟩
        · have k3 : 1073741824 < x.t := by omega
          go_enter Try.func36, Try.ntmps36
          go_wp2_with fail
          refine h1.out.mono ?_
          rintro e w1 ⟨rfl, hb1⟩
          rw [ha]
          replace ha := hide ha
          replace hno := hide hno
          go_wp2
          go_ret2
          exact ⟨none, 0, rfl, Nat.le_refl _, Nat.zero_le _, R.nil, hb1⟩
    · have e1 : rAddL7 l x = toldL (withF l x) := by unfold rAddL7; rw [ha, ho]; rfl
      have e2 : rAddN7 l x = toldN (withF l x) := by unfold rAddN7; rw [ha, ho]; rfl
      rw [e1, e2]
      clear e1 e2
      obtain ⟨a1, a2⟩ := may_from ha
      have hxs := okX_iff.1 ho
      have h3 := hide (fun V (hv : Bl w V) => refWith07 A c l x V a1 hxs (hA.bl hv))
      obtain ⟨x1, x2, x3⟩ := hxs
      clear a1 ho
      have k1 : ¬ x.f < 1 := by omega
      have k2 : ¬ x.t < x.f := by omega
      have k3 : ¬ 1073741824 < x.t := by omega
      go_enter Try.func36, Try.ntmps36
      go_wp2_with fail
      refine h1.out.mono ?_
      rintro e w1 ⟨rfl, hb1⟩
      rw [ha]
      replace ha := hide ha
      go_wp2_with fail
      refine (h3.out _ hb1).mono ?_
      rintro e w3 ⟨A3, c3, rfl, g1, g2, hr3, hb3⟩
      generalize withF l x = L at *
      go_wp2_with fail
      refine (refTold07 A3 c3 L _).mono ?_
      rintro e w4 h4
      obtain ⟨A5, c5, rfl, q1, q2, q3, q4⟩ := told_new (w := w1) h4 g1 g2 hr3 hb3
      go_wp2
      go_ret2
      exact ⟨A5, c5, rfl, q1, q2, q3.more hb1.size, hb1.trans q4⟩

theorem refCheck07 (A : Option Addr) (c : Nat) (l : List Span) (w : World) (hl : l.length ≤ maxLen) (hA : R cSpan 0 w A l) :
    Calls Try.prog 39 #[.slice A l.length c] w fun e w' => e = .returned (.int .i64 (okOr 8 (spansMay l))) ∧ Bl w w' := by
  have h1 := hide (refMay07 A c l w hl hA)
  cases ha : spansMay l
  · go_enter Try.func39, Try.ntmps39
    go_wp2_with fail
    refine h1.out.mono ?_
    rintro e w1 ⟨rfl, hb1⟩
    rw [ha]
    go_wp2
    go_ret
    exact ⟨rfl, hb1⟩
  · go_enter Try.func39, Try.ntmps39
    go_wp2_with fail
    refine h1.out.mono ?_
    rintro e w1 ⟨rfl, hb1⟩
    rw [ha]
    go_wp2
    go_ret
    exact ⟨rfl, hb1⟩

theorem refHas07 (A : Option Addr) (c : Nat) (l : List Span) (t : Int) (w : World) (hl : l.length ≤ maxLen) (hA : R cSpan 0 w A l) :
    Calls Try.prog 40 #[.slice A l.length c, .int .u32 t] w fun e w' => e = .returned (.bool (spanHasB l t)) ∧ Bl w w' := by
  have h1 := hide (refMay07 A c l w hl hA)
  have h2 := hide (fun V (hv : Bl w V) => refIn07 A c l t V hl (hA.bl hv))
  cases ha : spansMay l
  · have e1 : spanHasB l t = false := by unfold spanHasB; rw [ha]; rfl
    rw [e1]
    clear e1
    go_enter Try.func40, Try.ntmps40
    go_wp2_with fail
    refine h1.out.mono ?_
    rintro e w1 ⟨rfl, hb1⟩
    rw [ha]
    go_wp2
    go_ret
    exact ⟨rfl, hb1⟩
  · have e1 : spanHasB l t = spansHave l t := by unfold spanHasB; rw [ha]; rfl
    rw [e1]
    clear e1
    go_enter Try.func40, Try.ntmps40
    go_wp2_with fail
    refine h1.out.mono ?_
    rintro e w1 ⟨rfl, hb1⟩
    rw [ha]
    replace ha := hide ha
    go_wp2_with fail
    refine (h2.out _ hb1).mono ?_
    rintro e w2 ⟨rfl, hb2⟩
    go_wp2
    go_ret
    exact ⟨rfl, hb1.trans hb2⟩

theorem refCount07 (A : Option Addr) (c : Nat) (l : List Span) (w : World) (hl : l.length ≤ maxLen) (hA : R cSpan 0 w A l) :
    Calls Try.prog 41 #[.slice A l.length c] w fun e w' => e = .returned (.int .i64 (spansCount l)) ∧ Bl w w' := by
  have h1 := hide (refMay07 A c l w hl hA)
  cases ha : spansMay l
  · have e1 : spansCount l = 0 := by unfold spansCount; rw [ha]; rfl
    rw [e1]
    clear e1
    go_enter Try.func41, Try.ntmps41
    go_wp2_with fail
    refine h1.out.mono ?_
    rintro e w1 ⟨rfl, hb1⟩
    rw [ha]
    go_wp2
    go_ret
    exact ⟨rfl, hb1⟩
  · have e1 : spansCount l = spansMany l := by unfold spansCount; rw [ha]; rfl
    rw [e1]
    clear e1
    obtain ⟨a1, a2⟩ := may_from ha
    have h2 := hide (fun V (hv : Bl w V) => refMany07 A c l V a2 a1 (hA.bl hv))
    clear a1
    go_enter Try.func41, Try.ntmps41
    go_wp2_with fail
    refine h1.out.mono ?_
    rintro e w1 ⟨rfl, hb1⟩
    rw [ha]
    replace ha := hide ha
    go_wp2_with fail
    refine (h2.out _ hb1).mono ?_
    rintro e w2 ⟨rfl, hb2⟩
    go_wp2
    go_ret
    exact ⟨rfl, hb1.trans hb2⟩

end Go.Proofs.Ytiimpmdnkjhcoaa

/-
  The walk of SpanNames: the chapter's examples.
-/
import Derived.Test.YtiimpmdnkjhcoaaLaw07
namespace Go.Proofs.Ytiimpmdnkjhcoaa
open Go.RowKit

def NewK2 (l : List Span) (m : Nat) (n : Int) (w : World) (e : Ending) (w' : World) : Prop := ∃ A c, e = .returned (.tuple #[.slice A m c, .int .i64 n]) ∧ m ≤ c ∧ c ≤ maxLen ∧ R cSpan w.heap.size w' A l ∧ Bl w w'

theorem join07 (A B : Option Addr) (c d p q m : Nat) (N : Int) (a b L : List Span) (w : World) (hp : p = a.length) (hq : q = b.length) (hm : m = L.length) (h1 : p ≤ 1048576) (h2 : q ≤ 1048576) (hL : rJoinL a b = L) (hN : rJoinN a b = N)
    (hA : R cSpan 0 w A a) (hB : R cSpan 0 w B b) : Calls Try.prog 15 #[.slice A p c, .slice B q d] w (NewK2 L m N w) := by
  subst hp hq hm hL hN
  have h := spanJoin A B c d a b w (by unfold maxLen; omega) (by unfold maxLen; omega) hA hB
  rw [(join_eq a b).1, (join_eq a b).2] at h
  exact h

theorem less07 (A B : Option Addr) (c d p q m : Nat) (N : Int) (a b L : List Span) (w : World) (hp : p = a.length) (hq : q = b.length) (hm : m = L.length) (h1 : p ≤ 1048576) (h2 : q ≤ 1048576) (hL : rLessL7 a b = L) (hN : rLessN7 a b = N)
    (hA : R cSpan 0 w A a) (hB : R cSpan 0 w B b) : Calls Try.prog 16 #[.slice A p c, .slice B q d] w (NewK2 L m N w) := by
  subst hp hq hm hL hN
  have h := spanLess A B c d a b w (by unfold maxLen; omega) (by unfold maxLen; omega) hA hB
  rw [(less_eq7 a b).1, (less_eq7 a b).2] at h
  exact h

theorem add07 (A : Option Addr) (c p m : Nat) (N : Int) (a : List Span) (f t : Int) (L : List Span) (w : World) (hp : p = a.length) (hm : m = L.length) (h1 : p ≤ 1048576) (hx : (⟨f, t⟩ : Span).ok) (hL : rAddL7 a ⟨f, t⟩ = L) (hN : rAddN7 a ⟨f, t⟩ = N)
    (hA : R cSpan 0 w A a) : Calls Try.prog 22 #[.slice A p c, .int .u32 f, .int .u32 t] w (NewK2 L m N w) := by
  subst hp hm hL hN
  have h := spanAdd A c a ⟨f, t⟩ w (by unfold maxLen; omega) hx hA
  rw [(add_eq7 a ⟨f, t⟩).1, (add_eq7 a ⟨f, t⟩).2] at h
  exact h

theorem same07k (m : Nat) (l : List Span) {A B : Option Addr} {c d : Nat} (w : World) (hm : m = l.length) (hl : m ≤ 1048576) (hA : R cSpan 0 w A l) (hB : R cSpan 0 w B l) :
    Calls Try.prog 23 #[.slice A m c, .slice B m d] w fun e w' => e = .returned (.bool true) ∧ Bl w w' := by
  subst hm
  exact same07 l (by unfold maxLen; omega) hA hB

/-- As many spans as may be. -/
def mostL (n : Nat) : List Span := (List.range n).map fun (i : Nat) => ⟨1 + 3 * (i : Int), 2 + 3 * (i : Int)⟩

theorem most_len (n : Nat) : (mostL n).length = n := by unfold mostL; simp

theorem most_step (n : Nat) : mostL (n + 1) = mostL n ++ [⟨1 + 3 * (n : Int), 2 + 3 * (n : Int)⟩] := by unfold mostL; rw [List.range_succ, List.map_append]; rfl

theorem most_mem {n : Nat} {y : Span} (h : y ∈ mostL n) : y.t + 2 ≤ 1 + 3 * (n : Int) := by
  unfold mostL at h
  obtain ⟨i, hi, rfl⟩ := List.mem_map.1 h
  have := List.mem_range.1 hi
  dsimp only
  omega

theorem most_can : ∀ n, Can 1 (mostL n)
  | 0 => trivial
  | n + 1 => by
    rw [most_step]
    exact (most_can n).snoc (by dsimp only; omega) (by dsimp only; omega) fun y hy => by have := most_mem hy; dsimp only; omega

theorem most_may {n : Nat} (hn : n ≤ 1024) : spansMay (mostL n) = true := may_of (most_can n) (fun y hy => by have := most_mem hy; omega) (by rw [most_len]; exact hn)

theorem most_with {n : Nat} (hn : n ≤ 1024) : withF (mostL n) ⟨4000, 4000⟩ = mostL n ++ [⟨4000, 4000⟩] := by
  obtain ⟨h1, h2⟩ := with_ok (x := ⟨4000, 4000⟩) (most_can n) (by decide) (by decide)
  exact h1.ext ((most_can n).snoc (x := ⟨4000, 4000⟩) (by decide) (by decide) fun y hy => by have := most_mem hy; dsimp only; omega) fun u => by rw [h2, have_append, have_one]

theorem most_without {n : Nat} (hn : n ≤ 1024) : leftF (mostL n) [⟨5000, 5000⟩] = mostL n := by
  obtain ⟨h1, h2⟩ := left_ok (b := [⟨5000, 5000⟩]) (c := 1) (most_can n) ⟨by decide, by decide, trivial⟩
  refine h1.ext (most_can n) fun u => ?_
  rw [h2, have_one]
  cases e : spansHave (mostL n) u
  · rfl
  · obtain ⟨y, hy, k1, k2⟩ := have_iff.1 e
    have := most_mem hy
    have e2 : inX ⟨5000, 5000⟩ u = false := by
      cases q : inX ⟨5000, 5000⟩ u
      · rfl
      · have := inX_iff.1 q
        dsimp only at this
        omega
    rw [e2]
    rfl

theorem most_all {n : Nat} (hn : n = 1024) : rAddL7 (mostL n) ⟨4000, 4000⟩ = [] ∧ rAddN7 (mostL n) ⟨4000, 4000⟩ = 4 ∧ rLessL7 (mostL n) [⟨5000, 5000⟩] = mostL n ∧ rLessN7 (mostL n) [⟨5000, 5000⟩] = 0 := by
  have h0 : n ≤ 1024 := Nat.le_of_eq hn
  have o1 : okX ⟨4000, 4000⟩ = true := by decide
  have o2 : okX ⟨5000, 5000⟩ = true := by decide
  refine ⟨?_, ?_, ?_, ?_⟩
  · unfold rAddL7 toldL
    rw [most_may h0, most_with h0, if_pos rfl, o1, if_pos rfl, if_pos (by rw [List.length_append, most_len]; simp; omega)]
  · unfold rAddN7 toldN
    rw [most_may h0, most_with h0, if_pos rfl, o1, if_pos rfl, if_pos (by rw [List.length_append, most_len]; simp; omega)]
  · unfold rLessL7 toldL
    rw [most_may h0, most_without h0, may_one, o2, Bool.and_self, if_pos rfl, if_neg (by rw [most_len]; omega)]
  · unfold rLessN7 toldN
    rw [most_may h0, most_without h0, may_one, o2, Bool.and_self, if_pos rfl, if_neg (by rw [most_len]; omega)]

theorem most_addL : rAddL7 (mostL 1024) ⟨4000, 4000⟩ = [] := (most_all rfl).1

theorem most_addN : rAddN7 (mostL 1024) ⟨4000, 4000⟩ = 4 := (most_all rfl).2.1

theorem most_lessL : rLessL7 (mostL 1024) [⟨5000, 5000⟩] = mostL 1024 := (most_all rfl).2.2.1

theorem most_lessN : rLessN7 (mostL 1024) [⟨5000, 5000⟩] = 0 := (most_all rfl).2.2.2

set_option maxRecDepth 100000 in
set_option maxHeartbeats 8000000 in
theorem spanNames07 (w : World) : Calls Try.prog 5 #[] w fun e w' => e = .returned (.bool true) ∧ Bl w w' := by
  obtain ⟨i0, hi, hz0, hz1, hz2⟩ := info_parts Try.infoSpan
  go_enter Try.func5, Try.ntmps5
  have hb := Bl.refl w
  go_wp2_with fail
  refine (of07 (some ⟨w.heap.size, 0, none⟩) 2 1 1 2 [⟨1, 2⟩] [1, 2] _ rfl rfl (by omega) rfl rfl (R.lit [1, 2] (u32ok_all (by decide)) w _)).mono ?_
  rintro e w1 ⟨A, cA, rfl, -, -, hA, g⟩
  replace g := ((Bl.refl w).alloc _).trans g
  replace hA := hA.zero
  replace hb := hb.trans g
  clear g
  go_wp2_with fail
  refine (of07 (some ⟨w1.heap.size, 0, none⟩) 4 2 2 4 [⟨4, 4⟩, ⟨9, 9⟩] [4, 4, 9, 9] _ rfl rfl (by omega) rfl rfl (R.lit [4, 4, 9, 9] (u32ok_all (by decide)) w1 _)).mono ?_
  rintro e w2 ⟨B, cB, rfl, -, -, hB, g⟩
  replace g := ((Bl.refl w1).alloc _).trans g
  replace hB := hB.zero
  replace hA := hA.bl g
  replace hb := hb.trans g
  clear g
  go_wp2_with fail
  refine (join07 A B cA cB 1 2 3 0 [⟨1, 2⟩] [⟨4, 4⟩, ⟨9, 9⟩] [⟨1, 2⟩, ⟨4, 4⟩, ⟨9, 9⟩] _ rfl rfl rfl (by omega) (by omega) (by decide) (by decide) hA hB).mono ?_
  rintro e w3 ⟨C, cC, rfl, -, -, hC, g⟩
  replace hA := hA.bl g
  replace hB := hB.bl g
  replace hb := hb.trans g
  clear g
  replace hC := hC.zero
  clear hA
  clear hB
  go_wp2_with fail
  refine (of07 (some ⟨w3.heap.size, 0, none⟩) 2 1 1 2 [⟨1, 9⟩] [1, 9] _ rfl rfl (by omega) rfl rfl (R.lit [1, 9] (u32ok_all (by decide)) w3 _)).mono ?_
  rintro e w4 ⟨A, cA, rfl, -, -, hA, g⟩
  replace g := ((Bl.refl w3).alloc _).trans g
  replace hA := hA.zero
  replace hC := hC.bl g
  replace hb := hb.trans g
  clear g
  go_wp2_with fail
  refine (of07 (some ⟨w4.heap.size, 0, none⟩) 4 2 2 4 [⟨3, 3⟩, ⟨7, 20⟩] [3, 3, 7, 20] _ rfl rfl (by omega) rfl rfl (R.lit [3, 3, 7, 20] (u32ok_all (by decide)) w4 _)).mono ?_
  rintro e w5 ⟨B, cB, rfl, -, -, hB, g⟩
  replace g := ((Bl.refl w4).alloc _).trans g
  replace hB := hB.zero
  replace hC := hC.bl g
  replace hA := hA.bl g
  replace hb := hb.trans g
  clear g
  go_wp2_with fail
  refine (less07 A B cA cB 1 2 2 0 [⟨1, 9⟩] [⟨3, 3⟩, ⟨7, 20⟩] [⟨1, 2⟩, ⟨4, 6⟩] _ rfl rfl rfl (by omega) (by omega) (by decide) (by decide) hA hB).mono ?_
  rintro e w6 ⟨D, cD, rfl, -, -, hD, g⟩
  replace hC := hC.bl g
  replace hA := hA.bl g
  replace hB := hB.bl g
  replace hb := hb.trans g
  clear g
  replace hD := hD.zero
  clear hA
  clear hB
  go_wp2_with fail
  refine (add07 none 0 0 0 2 [] 3 2 [] _ rfl rfl (by omega) (by refine ⟨?_, ?_, ?_, ?_⟩ <;> decide) (by decide) (by decide) R.nil).mono ?_
  rintro e w7 ⟨A, cA, rfl, -, -, -, g⟩
  replace hC := hC.bl g
  replace hD := hD.bl g
  replace hb := hb.trans g
  clear g
  go_wp2_with fail
  refine (of07 (some ⟨w7.heap.size, 0, none⟩) 6 3 3 6 [⟨1, 2⟩, ⟨4, 4⟩, ⟨9, 9⟩] [1, 2, 4, 4, 9, 9] _ rfl rfl (by omega) rfl rfl (R.lit [1, 2, 4, 4, 9, 9] (u32ok_all (by decide)) w7 _)).mono ?_
  rintro e w8 ⟨B, cB, rfl, -, -, hB, g⟩
  replace g := ((Bl.refl w7).alloc _).trans g
  replace hB := hB.zero
  replace hC := hC.bl g
  replace hD := hD.bl g
  replace hb := hb.trans g
  clear g
  go_wp2_with fail
  refine (same07k 3 [⟨1, 2⟩, ⟨4, 4⟩, ⟨9, 9⟩] _ rfl (by omega) hC hB).mono ?_
  rintro e w9 ⟨rfl, g⟩
  replace hC := hC.bl g
  replace hD := hD.bl g
  replace hB := hB.bl g
  replace hb := hb.trans g
  clear g
  clear hC
  clear hB
  go_wp2_with fail
  refine (of07 (some ⟨w9.heap.size, 0, none⟩) 4 2 2 4 [⟨1, 2⟩, ⟨4, 6⟩] [1, 2, 4, 6] _ rfl rfl (by omega) rfl rfl (R.lit [1, 2, 4, 6] (u32ok_all (by decide)) w9 _)).mono ?_
  rintro e w10 ⟨B, cB, rfl, -, -, hB, g⟩
  replace g := ((Bl.refl w9).alloc _).trans g
  replace hB := hB.zero
  replace hD := hD.bl g
  replace hb := hb.trans g
  clear g
  go_wp2_with fail
  refine (same07k 2 [⟨1, 2⟩, ⟨4, 6⟩] _ rfl (by omega) hD hB).mono ?_
  rintro e w11 ⟨rfl, g⟩
  replace hD := hD.bl g
  replace hB := hB.bl g
  replace hb := hb.trans g
  clear g
  clear hD
  clear hB
  go_wp2_with fail
  obtain ⟨W, hW⟩ : ∃ W, W = w11 := ⟨_, rfl⟩
  subst hW
  go_loopw [8, 9] (fun v i wr => Bl W wr ∧ ∃ k : Nat, k ≤ 1024 ∧ i = .int .u32 k ∧ Own cSpan 36 W.heap.size wr v (mostL k)) (fun _ i _ => 1024 - (intOf i).toNat)
  case atStart => exact ⟨Bl.refl _, 0, Nat.zero_le _, rfl, Own.nil⟩
  case round =>
    obtain ⟨hbl, k, hk, rfl, hown⟩ := hrel
    by_cases hlt : k < 1024
    · have hki : (k : Int) < 1024 := by omega
      have hst := hide (most_step k)
      have hFl := most_len k
      have e1 : IntKind.u32.wrap (3 * (k : Int)) = 3 * (k : Int) := IntWalk.u32_in _ (by omega)
      have e2 : IntKind.u32.wrap (1 + 3 * (k : Int)) = 1 + 3 * (k : Int) := IntWalk.u32_in _ (by omega)
      have e3 : IntKind.u32.wrap (2 + 3 * (k : Int)) = 2 + 3 * (k : Int) := IntWalk.u32_in _ (by omega)
      have e4 : IntKind.u32.wrap ((k : Int) + 1) = (k : Int) + 1 := IntWalk.u32_in _ (by omega)
      have hsz := hbl.size
      generalize mostL k = F at hown hst hFl
      have hown1 := hown.bl ((Bl.refl wr).alloc (.cells #[.int .u32 (1 + 3 * (k : Int)), .int .u32 (2 + 3 * (k : Int))] 36))
      have hsrc := Own.src (t := 36) (w1 := wr) (cs := [.int .u32 (1 + 3 * (k : Int)), .int .u32 (2 + 3 * (k : Int))]) (x := ⟨1 + 3 * (k : Int), 2 + 3 * (k : Int)⟩) hown (Bl.refl _) hsz ⟨by refine ⟨?_, ?_, ?_, ?_⟩ <;> dsimp only <;> omega, rfl⟩
      have qa1 : (F).length + [(⟨1 + 3 * (k : Int), 2 + 3 * (k : Int)⟩ : Span)].length ≤ maxLen := by rw [List.length_singleton]; unfold maxLen; omega
      have qa2 : ((F).length + [(⟨1 + 3 * (k : Int), 2 + 3 * (k : Int)⟩ : Span)].length) * 8 ≤ 140737488355328 := by rw [List.length_singleton]; omega
      have qa3 : W.heap.size ≤ (wr.alloc (.cells #[.int .u32 (1 + 3 * (k : Int)), .int .u32 (2 + 3 * (k : Int))] 36)).heap.size := by rw [World.size_alloc]; omega
      replace hsrc := hide hsrc
      replace hown1 := hide hown1
      go_wp2_with (at_builtin; refine Hid.out ?_)
      refine hide ?_
      refine wpList_append_any2 (C := cSpan) (xs := F) (ys := [⟨1 + 3 * (k : Int), 2 + 3 * (k : Int)⟩]) rfl (.tmp 60) (.tmp 68) _ rfl 36 i0 _ 8 Try.underlying22 hi hz0 hz1 hz2 rfl u8 W.heap.size rfl hown1.out (some ⟨wr.heap.size, 0, none⟩) 1 1 rfl rfl hsrc.out qa1 qa2 qa3 ?_
      intro v9 w9 hown9 hg9 hf9
      have hlt9 := hown1.out
      have hb9 : Bl W w9 := (hbl.alloc _).app hown1.out (Nat.le_refl _) hg9
      clear hown hown1 hsrc qa1 qa2 qa3 hg9 hf9 hlt9
      go_wp2
      go_roundw
      case rel => exact ⟨hb9, k + 1, by omega, by go_num, by rw [hst.out]; exact hown9⟩
      case measure => simp [intOf]; omega
    · obtain rfl : k = 1024 := by omega
      obtain ⟨M, cM, rfl, hM, q1, q2⟩ := hown.reads
      replace hM := hM.zero
      have g := hbl
      replace hb := hb.trans g
      rw [most_len 1024] at q1 ⊢
      clear g hbl hown
      go_wp2_with fail
      refine (add07 M cM 1024 0 4 (mostL 1024) 4000 4000 [] _ (most_len _).symm rfl (by omega) (by refine ⟨?_, ?_, ?_, ?_⟩ <;> decide) most_addL most_addN hM).mono ?_
      rintro e w12 ⟨A, cA, rfl, -, -, -, g⟩
      replace hM := hM.bl g
      replace hb := hb.trans g
      clear g
      go_wp2_with fail
      refine (of07 (some ⟨w12.heap.size, 0, none⟩) 2 1 1 2 [⟨5000, 5000⟩] [5000, 5000] _ rfl rfl (by omega) rfl rfl (R.lit [5000, 5000] (u32ok_all (by decide)) w12 _)).mono ?_
      rintro e w13 ⟨B, cB, rfl, -, -, hB, g⟩
      replace g := ((Bl.refl w12).alloc _).trans g
      replace hB := hB.zero
      replace hM := hM.bl g
      replace hb := hb.trans g
      clear g
      go_wp2_with fail
      refine (less07 M B cM cB 1024 1 1024 0 (mostL 1024) [⟨5000, 5000⟩] (mostL 1024) _ (most_len _).symm rfl (most_len _).symm (by omega) (by omega) most_lessL most_lessN hM hB).mono ?_
      rintro e w14 ⟨D, cD, rfl, -, -, -, g⟩
      replace hM := hM.bl g
      replace hB := hB.bl g
      replace hb := hb.trans g
      clear g
      clear hM
      clear hB
      go_wp2_with fail
      refine (lawAlive07 _).mono ?_
      rintro e w15 ⟨rfl, g⟩
      replace hb := hb.trans g
      clear g
      go_wp2_with fail
      refine (of07 (some ⟨w15.heap.size, 0, none⟩) 4 2 2 4 [⟨3, 5⟩, ⟨8, 9⟩] [3, 5, 8, 9] _ rfl rfl (by omega) rfl rfl (R.lit [3, 5, 8, 9] (u32ok_all (by decide)) w15 _)).mono ?_
      rintro e w16 ⟨A, cA, rfl, -, -, hA, g⟩
      replace g := ((Bl.refl w15).alloc _).trans g
      replace hA := hA.zero
      replace hb := hb.trans g
      clear g
      go_wp2_with fail
      refine (spanCount A cA [⟨3, 5⟩, ⟨8, 9⟩] _ (by simp [maxLen]) hA).mono ?_
      rintro e w17 ⟨rfl, g⟩
      replace hA := hA.bl g
      replace hb := hb.trans g
      clear g
      rw [show spansCount [⟨3, 5⟩, ⟨8, 9⟩] = 5 by decide]
      clear hA
      go_wp2_with fail
      refine (of07 (some ⟨w17.heap.size, 0, none⟩) 2 1 1 2 [⟨3, 5⟩] [3, 5] _ rfl rfl (by omega) rfl rfl (R.lit [3, 5] (u32ok_all (by decide)) w17 _)).mono ?_
      rintro e w18 ⟨A, cA, rfl, -, -, hA, g⟩
      replace g := ((Bl.refl w17).alloc _).trans g
      replace hA := hA.zero
      replace hb := hb.trans g
      clear g
      go_wp2_with fail
      refine (spanHas A cA [⟨3, 5⟩] 6 _ (by simp [maxLen]) hA).mono ?_
      rintro e w19 ⟨rfl, g⟩
      replace hA := hA.bl g
      replace hb := hb.trans g
      clear g
      rw [show spanHasB [⟨3, 5⟩] 6 = false by decide]
      clear hA
      go_wp2_with fail
      refine (of07 (some ⟨w19.heap.size, 0, none⟩) 2 1 1 2 [⟨3, 5⟩] [3, 5] _ rfl rfl (by omega) rfl rfl (R.lit [3, 5] (u32ok_all (by decide)) w19 _)).mono ?_
      rintro e w20 ⟨A, cA, rfl, -, -, hA, g⟩
      replace g := ((Bl.refl w19).alloc _).trans g
      replace hA := hA.zero
      replace hb := hb.trans g
      clear g
      go_wp2_with fail
      refine (spanHas A cA [⟨3, 5⟩] 5 _ (by simp [maxLen]) hA).mono ?_
      rintro e w21 ⟨rfl, g⟩
      replace hA := hA.bl g
      replace hb := hb.trans g
      clear g
      rw [show spanHasB [⟨3, 5⟩] 5 = true by decide]
      clear hA
      go_wp2_with fail
      refine (of07 (some ⟨w21.heap.size, 0, none⟩) 4 2 2 4 [⟨3, 5⟩, ⟨6, 7⟩] [3, 5, 6, 7] _ rfl rfl (by omega) rfl rfl (R.lit [3, 5, 6, 7] (u32ok_all (by decide)) w21 _)).mono ?_
      rintro e w22 ⟨A, cA, rfl, -, -, hA, g⟩
      replace g := ((Bl.refl w21).alloc _).trans g
      replace hA := hA.zero
      replace hb := hb.trans g
      clear g
      go_wp2_with fail
      refine (spanCheck A cA [⟨3, 5⟩, ⟨6, 7⟩] _ (by simp [maxLen]) hA).mono ?_
      rintro e w23 ⟨rfl, g⟩
      replace hA := hA.bl g
      replace hb := hb.trans g
      clear g
      rw [show okOr 8 (spansMay [⟨3, 5⟩, ⟨6, 7⟩]) = 8 by decide]
      clear hA
      go_wp2_with fail
      refine (of07 (some ⟨w23.heap.size, 0, none⟩) 2 1 1 2 [⟨0, 1⟩] [0, 1] _ rfl rfl (by omega) rfl rfl (R.lit [0, 1] (u32ok_all (by decide)) w23 _)).mono ?_
      rintro e w24 ⟨A, cA, rfl, -, -, hA, g⟩
      replace g := ((Bl.refl w23).alloc _).trans g
      replace hA := hA.zero
      replace hb := hb.trans g
      clear g
      go_wp2_with fail
      refine (spanCheck A cA [⟨0, 1⟩] _ (by simp [maxLen]) hA).mono ?_
      rintro e w25 ⟨rfl, g⟩
      replace hA := hA.bl g
      replace hb := hb.trans g
      clear g
      rw [show okOr 8 (spansMay [⟨0, 1⟩]) = 8 by decide]
      clear hA
      go_wp2_with fail
      refine (of07 (some ⟨w25.heap.size, 0, none⟩) 2 1 1 2 [⟨5, 4⟩] [5, 4] _ rfl rfl (by omega) rfl rfl (R.lit [5, 4] (u32ok_all (by decide)) w25 _)).mono ?_
      rintro e w26 ⟨A, cA, rfl, -, -, hA, g⟩
      replace g := ((Bl.refl w25).alloc _).trans g
      replace hA := hA.zero
      replace hb := hb.trans g
      clear g
      go_wp2_with fail
      refine (spanCheck A cA [⟨5, 4⟩] _ (by simp [maxLen]) hA).mono ?_
      rintro e w27 ⟨rfl, g⟩
      replace hA := hA.bl g
      replace hb := hb.trans g
      clear g
      rw [show okOr 8 (spansMay [⟨5, 4⟩]) = 8 by decide]
      clear hA
      go_wp2_with fail
      go_ret
      exact ⟨rfl, hb⟩
end Go.Proofs.Ytiimpmdnkjhcoaa

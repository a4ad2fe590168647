/-
  The walks of law 7's own functions: of, adds, alive.
-/
import Derived.Test.YtiimpmdnkjhcoaaRefSet3
namespace Go.Proofs.Ytiimpmdnkjhcoaa
open Go.RowKit

/-- Spans, out of a list of their ends. -/
def pairs : List Int → List Span
  | a :: b :: l => ⟨a, b⟩ :: pairs l
  | _ => []

theorem pairs_len : ∀ (n : Nat) (us : List Int), us.length ≤ 2 * n → (pairs us).length ≤ n
  | 0, [], _ => Nat.le_refl _
  | _ + 1, [], _ => Nat.zero_le _
  | _ + 1, [_], _ => Nat.zero_le _
  | n + 1, _ :: _ :: l, h => by
    have := pairs_len n l (by simp at h; omega)
    simp only [pairs, List.length_cons]
    omega

theorem pairs_step : ∀ (k : Nat) (us : List Int) (a b : Int), us[2 * k]? = some a → us[2 * k + 1]? = some b → pairs (us.take (2 * k + 2)) = pairs (us.take (2 * k)) ++ [⟨a, b⟩]
  | 0, x :: y :: l, a, b, h1, h2 => by
    simp at h1 h2
    subst h1 h2
    rfl
  | k + 1, x :: y :: l, a, b, h1, h2 => by
    have := pairs_step k l a b (by simpa [Nat.mul_add] using h1) (by simpa [Nat.mul_add] using h2)
    simp only [Nat.mul_add, Nat.mul_one, List.take_succ_cons, pairs, List.cons_append]
    rw [this]
  | 0, [], _, _, h, _ => by simp at h
  | 0, [_], _, _, _, h => by simp at h
  | _ + 1, [], _, _, h, _ => by simp at h
  | _ + 1, [_], _, _, h, _ => by simp [Nat.mul_add] at h

set_option maxRecDepth 100000 in
set_option maxHeartbeats 1000000 in
theorem lawOf07 (A : Option Addr) (c n : Nat) (us : List Int) (w : World) (hn : us.length = 2 * n) (hl : us.length ≤ 1048576) (hA : R cU32 0 w A us) :
    Calls Try.prog 21 #[.slice A us.length c] w (New cSpan (pairs us) w) := by
  obtain ⟨i0, hi, hz0, hz1, hz2⟩ := info_parts Try.infoSpan
  have hln := hide hn
  clear hn
  go_enter Try.func21, Try.ntmps21
  go_wp2
  go_loopw [3, 4] (fun v i wr => Bl w wr ∧ ∃ j k : Nat, j = 2 * k ∧ k ≤ n ∧ i = .int .i64 j ∧ Own cSpan 36 w.heap.size wr v (pairs (us.take (2 * k)))) (fun _ i _ => us.length - (intOf i).toNat)
  case atStart => exact ⟨Bl.refl _, 0, 0, rfl, Nat.zero_le _, rfl, Own.nil⟩
  case round =>
    obtain ⟨hbl, j, k, hj, hk, rfl, hown⟩ := hrel
    have hnn := hln.out
    by_cases hlt : k < n
    · have hR := hA.bl hbl
      obtain ⟨b, off, rfl, _, hbw⟩ := hA.addr (by omega)
      have hb : b < wr.heap.size := Nat.lt_of_lt_of_le hbw hbl.size
      obtain ⟨x, hx⟩ := get_lt (show 2 * k < us.length by omega)
      obtain ⟨y, hy⟩ := get_lt (show 2 * k + 1 < us.length by omega)
      have hst := hide (pairs_step k us x y hx hy)
      rw [← hj] at hx hy
      obtain ⟨_, ⟨x0, x1⟩, c0, _⟩ := hR.u32 hx
      obtain ⟨_, ⟨y0, y1⟩, c1, _⟩ := hR.u32 hy
      have hFl := pairs_len k (us.take (2 * k)) (by rw [List.length_take]; omega)
      clear hx hy
      generalize pairs (us.take (2 * k)) = F at hown hst hFl
      have hne := fun e => Nat.lt_irrefl _ (Nat.lt_of_lt_of_le hbw (hown.lt (b := b) e).1)
      have hki : (j : Int) + 1 < (us.length : Int) := by omega
      have hj1 : (j : Int) < (us.length : Int) := by omega
      have hj2 : j + 1 < us.length := by omega
      have hj3 : j < us.length := by omega
      have hj4 : (j : Int) + 1 < 9223372036854775808 := by omega
      have hW0 : w.heap.size ≤ wr.heap.size := hbl.size
      have e1 : IntKind.i64.wrap ((j : Int) + 1) = (j : Int) + 1 := IntWalk.i64_in _ (by omega)
      have e2 : ((j : Int) + 1).toNat = j + 1 := by omega
      have e3 : (0 : Int) ≤ (j : Int) + 1 := by omega
      have hsrc := hide (hown.src (t := 36) (cs := [Value.int IntKind.u32 x, Value.int IntKind.u32 y]) (x := ⟨x, y⟩) (Bl.refl _) hbl.size ⟨⟨x0, x1, y0, y1⟩, rfl⟩)
      have qa0 : F.length ≤ 1048576 := by omega
      have qa1 : F.length + [(⟨x, y⟩ : Span)].length ≤ maxLen := by rw [List.length_singleton]; unfold maxLen; omega
      have qa2 : (F.length + [(⟨x, y⟩ : Span)].length) * 8 ≤ 140737488355328 := by rw [List.length_singleton]; omega
      clear hnn
      replace hj := hide hj
      go_wp2
      go_region_held3 (fun W' => W'.cell? ⟨b, off + j, none⟩ = some (.int .u32 x) ∧ W'.cell? ⟨b, off + (j + 1), none⟩ = some (.int .u32 y))
        (first | exact ⟨c0, c1⟩ | exact ⟨(grown_far hg2 hne (by simp; omega)).trans ((((Bl.refl wr).alloc _).drew.cell hb).trans c0), (grown_far hg2 hne (by simp; omega)).trans ((((Bl.refl wr).alloc _).drew.cell hb).trans c1)⟩ | go_keep)
        ((refine step_append_any2 (C := cSpan) (xs := F) (ys := [⟨x, y⟩]) rfl (.tmp 12) (.tmp 23) _ rfl 36 i0 _ 8 Try.underlying22 hi hz0 hz1 hz2 rfl _ w.heap.size rfl (hown.bl ((Bl.refl _).alloc _).drew) (some ⟨wr.heap.size, 0, none⟩) 1 _ rfl rfl hsrc.out qa1 qa2 (by simp; omega) ?_; intro v2 w2 hown2 hg2 _; have hbl2 : Bl w w2 := ((hbl.alloc _).drew).app (hown.bl ((Bl.refl _).alloc _).drew) (Nat.le_refl _) hg2))
      go_wp2
      go_roundw
      case rel => exact ⟨hbl2, j + 2, k + 1, by have := hj.out; omega, by omega, by go_num, by rw [show 2 * (k + 1) = 2 * k + 2 by omega, hst.out]; exact hown2⟩
      case measure => simp [intOf]; omega
    · have hki : ¬ (j : Int) + 1 < (us.length : Int) := by omega
      have e1 : IntKind.i64.wrap ((j : Int) + 1) = (j : Int) + 1 := IntWalk.i64_in _ (by omega)
      rw [List.take_of_length_le (by omega)] at hown
      clear hnn hj
      go_wp2
      go_ret
      obtain ⟨A', c', rfl, hr, h1, h2⟩ := hown.reads
      exact ⟨A', c', rfl, h1, h2, hr, hbl⟩

theorem same07 (l : List Span) {A B : Option Addr} {c d : Nat} {w : World} (hl : l.length ≤ maxLen) (hA : R cSpan 0 w A l) (hB : R cSpan 0 w B l) :
    Calls Try.prog 23 #[.slice A l.length c, .slice B l.length d] w fun e w' => e = .returned (.bool true) ∧ Bl w w' := by
  have h := refSame07 A B c d l l w hl hl hA hB
  rw [show same l l = true by unfold same; simp] at h
  exact h

theorem lawAdds07 (A B : Option Addr) (c d n : Nat) (l : List Span) (x : Span) (us : List Int) (w : World) (hl : l.length ≤ maxLen) (hx : x.ok) (hn : us.length = 2 * n) (hu : us.length ≤ 1048576)
    (h0 : sAddN l x = 0) (h1 : sAddL l x = pairs us) (hA : R cSpan 0 w A l) (hB : R cU32 0 w B us) :
    Calls Try.prog 61 #[.slice A l.length c, .int .u32 x.f, .int .u32 x.t, .slice B us.length d] w fun e w' => e = .returned (.bool true) ∧ Bl w w' := by
  have hadd := spanAdd A c l x w hl hx hA
  rw [h0, h1] at hadd
  have hof := hide fun (V : World) (hV : Bl w V) => lawOf07 B d n us V hn hu (hB.bl hV)
  clear h0 h1 hn
  generalize pairs us = P at *
  replace hadd := hide hadd
  go_enter Try.func61, Try.ntmps61
  go_wp2_with fail
  refine hadd.out.mono ?_
  rintro e w1 ⟨A1, c1, rfl, p1, p2, hr1, hb1⟩
  go_wp2_with fail
  refine (hof.out _ hb1).mono ?_
  rintro e w2 ⟨A2, c2, rfl, q1, q2, hr2, hb2⟩
  go_wp2_with fail
  refine (same07 P (Nat.le_trans p1 p2) (hr1.zero.bl hb2) hr2.zero).mono ?_
  rintro e w3 ⟨rfl, hb3⟩
  go_wp2_with fail
  go_ret
  exact ⟨rfl, (hb1.trans hb2).trans hb3⟩

/-- A row of numbers, just made. -/
theorem R.lit (us : List Int) (hok : ∀ x ∈ us, u32ok x) (w : World) (t : TypeId) : R cU32 0 (w.alloc (.cells (us.map (Value.int .u32)).toArray t)) (some ⟨w.heap.size, 0, none⟩) us := by
  refine ⟨us.map (Value.int .u32), rdl_u32 us hok, fun _ => ⟨w.heap.size, 0, rfl, ⟨Nat.zero_le _, by rw [World.size_alloc]; omega⟩, fun j u hu => ⟨?_, ?_⟩⟩⟩
  · rw [Nat.zero_add, cell_of_row _ w.heap.size j _ t (0, 0) (heap_alloc_new w _)]
    simpa using hu
  · rw [Nat.zero_add]
    exact frozen_new w _ t j

/-- The same, the lengths being known. -/
theorem adds07 (A B : Option Addr) (c d n m k : Nat) (l : List Span) (f t : Int) (us : List Int) (w : World) (hm : m = l.length) (hk : k = us.length) (hl : m ≤ 1048576) (hx : (⟨f, t⟩ : Span).ok) (hn : k = 2 * n) (hu : k ≤ 1048576)
    (h0 : rAddN7 l ⟨f, t⟩ = 0) (h1 : rAddL7 l ⟨f, t⟩ = pairs us) (hA : R cSpan 0 w A l) (hB : R cU32 0 w B us) :
    Calls Try.prog 61 #[.slice A m c, .int .u32 f, .int .u32 t, .slice B k d] w fun e w' => e = .returned (.bool true) ∧ Bl w w' := by
  subst hm hk
  exact lawAdds07 A B c d n l ⟨f, t⟩ us w (by unfold maxLen; omega) hx hn hu ((add_eq7 l ⟨f, t⟩).2.trans h0) ((add_eq7 l ⟨f, t⟩).1.trans h1) hA hB

def NewK (l : List Span) (m : Nat) (w : World) (e : Ending) (w' : World) : Prop := ∃ A c, e = .returned (.slice A m c) ∧ m ≤ c ∧ c ≤ maxLen ∧ R cSpan w.heap.size w' A l ∧ Bl w w'

theorem of07 (B : Option Addr) (d n m k : Nat) (L : List Span) (us : List Int) (w : World) (hk : k = us.length) (hn : k = 2 * n) (hu : k ≤ 1048576) (hm : m = L.length) (hL : L = pairs us) (hB : R cU32 0 w B us) :
    Calls Try.prog 21 #[.slice B k d] w (NewK L m w) := by
  subst hk hm hL
  exact lawOf07 B d n us w hn hu hB

theorem u32ok_all {us : List Int} (h : us.all (fun x => decide (0 ≤ x) && decide (x < 4294967296)) = true) : ∀ x ∈ us, u32ok x := fun x hx => by
  have := List.all_eq_true.1 h x hx
  simp at this
  exact this

set_option maxRecDepth 100000 in
set_option maxHeartbeats 2000000 in
theorem lawAlive07 (w : World) : Calls Try.prog 14 #[] w fun e w' => e = .returned (.bool true) ∧ Bl w w' := by
  have o35 := u32ok_all (us := [3, 5]) (by decide)
  have o36 := u32ok_all (us := [3, 6]) (by decide)
  have o39 := u32ok_all (us := [3, 9]) (by decide)
  have o4 := u32ok_all (us := [3, 5, 8, 9]) (by decide)
  go_enter Try.func14, Try.ntmps14
  go_wp2_with fail
  refine (adds07 none (some ⟨w.heap.size, 0, none⟩) 0 2 1 0 2 [] 3 5 [3, 5] _ rfl rfl (by omega) (by refine ⟨?_, ?_, ?_, ?_⟩ <;> decide) rfl (by omega) (by decide) (by decide) R.nil (R.lit [3, 5] o35 w _)).mono ?_
  rintro e w1 ⟨rfl, hb1⟩
  have hb01 := ((Bl.refl w).alloc _).trans hb1
  clear hb1
  go_wp2_with fail
  refine (of07 (some ⟨w1.heap.size, 0, none⟩) 2 1 1 2 [⟨3, 5⟩] [3, 5] _ rfl rfl (by omega) rfl rfl (R.lit [3, 5] o35 w1 _)).mono ?_
  rintro e w2 ⟨A2, c2, rfl, h21, h22, hr2, hb2⟩
  have hb02 := (hb01.alloc _).trans hb2
  clear hb2
  go_wp2_with fail
  refine (adds07 A2 (some ⟨w2.heap.size, 0, none⟩) c2 2 1 1 2 [⟨3, 5⟩] 6 6 [3, 6] _ rfl rfl (by omega) (by refine ⟨?_, ?_, ?_, ?_⟩ <;> decide) rfl (by omega) (by decide) (by decide) (hr2.zero.bl ((Bl.refl w2).alloc _)) (R.lit [3, 6] o36 w2 _)).mono ?_
  rintro e w3 ⟨rfl, hb3⟩
  have hb03 := (hb02.alloc _).trans hb3
  clear hb3 hr2
  go_wp2_with fail
  refine (of07 (some ⟨w3.heap.size, 0, none⟩) 2 1 1 2 [⟨3, 5⟩] [3, 5] _ rfl rfl (by omega) rfl rfl (R.lit [3, 5] o35 w3 _)).mono ?_
  rintro e w4 ⟨A4, c4, rfl, h41, h42, hr4, hb4⟩
  have hb04 := (hb03.alloc _).trans hb4
  clear hb4
  go_wp2_with fail
  refine (adds07 A4 (some ⟨w4.heap.size, 0, none⟩) c4 4 2 1 4 [⟨3, 5⟩] 8 9 [3, 5, 8, 9] _ rfl rfl (by omega) (by refine ⟨?_, ?_, ?_, ?_⟩ <;> decide) rfl (by omega) (by decide) (by decide) (hr4.zero.bl ((Bl.refl w4).alloc _)) (R.lit [3, 5, 8, 9] o4 w4 _)).mono ?_
  rintro e w5 ⟨rfl, hb5⟩
  have hb05 := (hb04.alloc _).trans hb5
  clear hb5 hr4
  go_wp2_with fail
  refine (of07 (some ⟨w5.heap.size, 0, none⟩) 4 2 2 4 [⟨3, 5⟩, ⟨8, 9⟩] [3, 5, 8, 9] _ rfl rfl (by omega) rfl rfl (R.lit [3, 5, 8, 9] o4 w5 _)).mono ?_
  rintro e w6 ⟨A6, c6, rfl, h61, h62, hr6, hb6⟩
  have hb06 := (hb05.alloc _).trans hb6
  clear hb6
  go_wp2_with fail
  refine (adds07 A6 (some ⟨w6.heap.size, 0, none⟩) c6 2 1 2 2 [⟨3, 5⟩, ⟨8, 9⟩] 4 7 [3, 9] _ rfl rfl (by omega) (by refine ⟨?_, ?_, ?_, ?_⟩ <;> decide) rfl (by omega) (by decide) (by decide) (hr6.zero.bl ((Bl.refl w6).alloc _)) (R.lit [3, 9] o39 w6 _)).mono ?_
  rintro e w7 ⟨rfl, hb7⟩
  have hb07 := (hb06.alloc _).trans hb7
  clear hb7 hr6
  go_wp2_with fail
  go_ret
  exact ⟨rfl, hb07⟩
end Go.Proofs.Ytiimpmdnkjhcoaa

/-
  The walks of the references of layer 8.
-/
import Derived.Test.YtiimpmdnkjhcoaaClockIds
namespace Go.Proofs.Ytiimpmdnkjhcoaa
open Go.RowKit

set_option maxRecDepth 100000 in
set_option maxHeartbeats 1000000 in
theorem refAll08 (A : Option Addr) (c : Nat) (l : List Times) (w : World) (hm : clockMay l = true) (hbig : clockMany l ≤ 1024) (hA : R cTimes 0 w A l) :
    Calls Try.prog 86 #[.slice A l.length c] w (New cId (clockAll l) w) := by
  have hlen : l.length ≤ 8 := clockMay_length hm
  have hall := hide (clockFrom_all _ (show clockFrom (-1) l = true from hm))
  have htot : (clockAll l).length ≤ 1024 := by have := clockAll_length l hall.out; omega
  clear hm
  obtain ⟨i0, hi, hz0, hz1, hz2⟩ := info_parts Try.infoId
  go_enter Try.func86, Try.ntmps86
  go_wp2
  go_loopw [3, 4] (fun v i wr => Bl w wr ∧ ∃ (k : Nat) (pre : List Id), k ≤ l.length ∧ i = .int .i64 k ∧ Own cId 39 w.heap.size wr v pre ∧ Hid (clockAll l = pre ++ clockAll (l.drop k))) (fun _ i _ => l.length - (intOf i).toNat)
  case atStart => exact ⟨Bl.refl _, 0, [], Nat.zero_le _, rfl, Own.nil, rfl⟩
  case round =>
    obtain ⟨hbl, k, pre, hk, rfl, hown, hf⟩ := hrel
    obtain ⟨wo, rfl⟩ : ∃ wo : World, wo = wr := ⟨_, rfl⟩
    by_cases hlt : k < l.length
    · obtain ⟨b, off, rfl, _, hbw⟩ := hA.addr (by omega)
      obtain ⟨x, hx⟩ := get_lt hlt
      obtain ⟨_, ho, B, d, hcd, hdm, c0, c1, hB⟩ := hA.times hx
      have hd := hide (drop_cons hx)
      have hxm := hall.out x (List.mem_of_getElem? hx)
      have hfr := hide (spansMay_from hxm)
      clear hx hxm
      have hxl : x.s.length ≤ 9223372036854775807 := by unfold maxLen at hdm; omega
      have C0 := hide c0
      have C1 := hide c1
      clear c0 c1
      have hf1 : Hid (clockAll l = pre ++ (spansIds x.r (x.s.drop 0) ++ clockAll (l.drop (k + 1)))) := by rw [Hid, hf.out, hd.out, clockAll]; rfl
      go_wp2
      go_loopw [3, 5] (fun v i w3 => Bl w w3 ∧ ∃ (j : Nat) (pre2 : List Id) (least : Int), j ≤ x.s.length ∧ i = .int .i64 j ∧ Own cId 39 w.heap.size w3 v pre2 ∧ Hid (spansFrom least (x.s.drop j) = true) ∧ Hid (clockAll l = pre2 ++ (spansIds x.r (x.s.drop j) ++ clockAll (l.drop (k + 1)))) ∧ 1 ≤ least) (fun _ i _ => x.s.length - (intOf i).toNat)
      case atStart => exact ⟨hbl, 0, pre, 1, Nat.zero_le _, rfl, hown, hfr.out, hf1, by omega⟩
      case round =>
        obtain ⟨hbl3, j, pre2, least, hj, rfl, hown3, hsf, hf3, hle1⟩ := hrel
        obtain ⟨wm, rfl⟩ : ∃ wm : World, wm = wr := ⟨_, rfl⟩
        have c0 := (hbl3.cell hbw).trans C0.out
        have c1 := (hbl3.cell hbw).trans C1.out
        by_cases hjl : j < x.s.length
        · obtain ⟨b2, off2, rfl, _, hb2'⟩ := hB.addr (by omega)
          obtain ⟨y, hy⟩ := get_lt hjl
          obtain ⟨_, hyo, d0, d1⟩ := hB.span hy
          have hdy := hide (drop_cons hy)
          clear hy
          obtain ⟨o0, o1, o2, o3⟩ := hyo
          have hx : least ≤ y.f ∧ y.f ≤ y.t ∧ y.t ≤ 1073741824 ∧ spansFrom (y.t + 2) (x.s.drop (j + 1)) = true := by
            have := hsf.out
            rw [hdy.out, spansFrom] at this
            simp only [Bool.and_eq_true, decide_eq_true_eq] at this
            exact ⟨this.1.1.1, this.1.1.2, this.1.2, this.2⟩
          obtain ⟨x0, x1, x2, x3⟩ := hx
          have x3 := hide x3
          have D0 := hide d0
          have D1 := hide d1
          have e0 := (hbl3.cell hb2').trans d0
          have e1 := (hbl3.cell hb2').trans d1
          clear d0 d1
          have hf4 : Hid (clockAll l = pre2 ++ (idsFrom x.r y.f y.t ++ (spansIds x.r (x.s.drop (j + 1)) ++ clockAll (l.drop (k + 1))))) := by rw [Hid, hf3.out, hdy.out, spansIds, List.append_assoc]
          go_wp2
          clear e0 e1 c0 c1
          go_loopw [3, 6] (fun v t w5 => Bl w w5 ∧ ∃ (tt : Int) (pre3 : List Id), t = .int .u32 tt ∧ y.f ≤ tt ∧ tt ≤ y.t + 1 ∧ Own cId 39 w.heap.size w5 v pre3 ∧ Hid (clockAll l = pre3 ++ (idsFrom x.r tt y.t ++ (spansIds x.r (x.s.drop (j + 1)) ++ clockAll (l.drop (k + 1)))))) (fun _ t _ => (y.t + 1 - intOf t).toNat)
          case atStart => exact ⟨hbl3, y.f, pre2, rfl, by omega, by omega, hown3, hf4⟩
          case round =>
            obtain ⟨hbl5, tt, pre3, rfl, ht0, ht1, hown5, hf5⟩ := hrel
            have c0 := (hbl5.cell hbw).trans C0.out
            have c1 := (hbl5.cell hbw).trans C1.out
            have e0 := (hbl5.cell hb2').trans D0.out
            have e1 := (hbl5.cell hb2').trans D1.out
            by_cases htl : tt ≤ y.t
            · have hlen3 : pre3.length + 1 ≤ 1024 := by
                have := congrArg List.length hf5.out
                rw [idsFrom_cons htl] at this
                simp only [List.length_append, List.length_cons] at this
                omega
              have hf6 : Hid (clockAll l = (pre3 ++ [⟨tt, x.r⟩]) ++ (idsFrom x.r (tt + 1) y.t ++ (spansIds x.r (x.s.drop (j + 1)) ++ clockAll (l.drop (k + 1))))) := by rw [Hid, hf5.out, idsFrom_cons htl]; simp
              have hido : Id.ok ⟨tt, x.r⟩ := ⟨show (0 : Int) ≤ tt by omega, show tt < 4294967296 by omega, ho.1, ho.2⟩
              go_wp2_with (at_builtin
                           refine wpList_append_any2 (C := cId) (xs := pre3) (ys := [⟨tt, x.r⟩]) rfl (.tmp 45) (.tmp 53) _ rfl 39 i0 _ 8 Try.underlying61 hi hz0 hz1 hz2 rfl _ w.heap.size rfl (hown5.bl ((Bl.refl _).alloc _)) (some ⟨wr.heap.size, 0, none⟩) 1 _ rfl rfl (hown5.src (cs := [Value.int IntKind.u32 tt, Value.int IntKind.u8 x.r]) (Bl.refl _) hbl5.size ⟨hido, rfl⟩) ?c1 ?c2 ?c3 ?_
                           case c1 => simp [maxLen]; omega
                           case c2 => simp; omega
                           case c3 => have := hbl5.size; simp; omega
                           intro v7 w7 hown7 hg7 hfar7)
              have hbl7 : Bl w w7 := (hbl5.alloc _).app (hown5.bl ((Bl.refl _).alloc _)) (Nat.le_refl _) hg7
              go_roundw
              case rel => exact ⟨hbl7, tt + 1, _, rfl, by omega, by omega, hown7, hf6⟩
              case measure => simp [intOf]; omega
            · go_wp2
              go_roundw
              case rel => exact ⟨hbl5, j + 1, pre3, y.t + 2, by omega, by go_num, hown5, x3.out, by rw [Hid, hf5.out, idsFrom_nil (by omega)]; rfl, by omega⟩
              case measure => simp [intOf]; omega
        · have hkl : x.s.length ≤ j := by omega
          go_wp2
          go_roundw
          case rel => exact ⟨hbl3, k + 1, pre2, by omega, by go_num, hown3, by rw [Hid, hf3.out, List.drop_eq_nil_of_le hkl]; simp [spansIds]⟩
          case measure => simp [intOf]; omega
    · have hkl : l.length ≤ k := by omega
      go_wp2
      go_ret
      have hfin : pre = clockAll l := by rw [hf.out, List.drop_eq_nil_of_le hkl]; simp [clockAll]
      subst hfin
      obtain ⟨A', c', rfl, hr, h1, h2⟩ := hown.reads
      exact ⟨A', c', rfl, h1, h2, hr, hbl⟩

set_option maxHeartbeats 400000 in
theorem refMany08 (A : Option Addr) (c : Nat) (l : List Times) (w : World) (hm : clockMay l = true) (hA : R cTimes 0 w A l) :
    Calls Try.prog 85 #[.slice A l.length c] w fun e w' => e = .returned (.int .i64 (clockMany l)) ∧ Bl w w' := by
  have hlen : l.length ≤ 8 := clockMay_length hm
  have hall := hide (clockFrom_all _ (show clockFrom (-1) l = true from hm))
  clear hm
  go_enter Try.func85, Try.ntmps85
  go_wp2
  go_loopw [3, 4] (fun n i wr => Bl w wr ∧ ∃ (k : Nat) (s : Int), k ≤ l.length ∧ i = .int .i64 k ∧ n = .int .i64 s ∧ 0 ≤ s ∧ s ≤ 1099511627776 * k ∧ Hid (clockMany l = s + clockMany (l.drop k))) (fun _ i _ => l.length - (intOf i).toNat)
  case atStart => exact ⟨Bl.refl _, 0, 0, Nat.zero_le _, rfl, rfl, by omega, by omega, by simp [Hid]⟩
  case round =>
    obtain ⟨hbl, k, s, hk, rfl, rfl, hs0, hs1, hf⟩ := hrel
    by_cases hlt : k < l.length
    · have hR := hA.bl hbl
      obtain ⟨b, off, rfl, _, hb⟩ := hR.addr (by omega)
      obtain ⟨x, hx⟩ := get_lt hlt
      obtain ⟨_, ho, B, d, hcd, hdm, c0, c1, hB⟩ := hR.times hx
      have hd := hide (drop_cons hx)
      have hxm := hall.out x (List.mem_of_getElem? hx)
      have hxm' : x.s.length ≤ 1024 ∧ spansFrom 1 x.s = true := by unfold spansMay at hxm; simpa using hxm
      obtain ⟨hn0, hn1⟩ := spansMay_many hxm
      have hcon := hide (refMany07 B d x.s wr hxm'.1 hxm'.2 hB)
      clear hx hxm hxm'
      go_wp2_with (go_at_call 83; refine hcon.out.mono ?_; rintro e w1 ⟨rfl, hb1⟩)
      go_roundw
      case rel => exact ⟨hbl.trans hb1, k + 1, s + spansMany x.s, by omega, by go_num, rfl, by omega, by push_cast; omega, by rw [Hid, hf.out, hd.out, clockMany]; omega⟩
      case measure => simp [intOf]; omega
    · have hkl : l.length ≤ k := by omega
      go_wp2
      go_ret
      exact ⟨ret_int (by rw [hf.out, List.drop_eq_nil_of_le hkl]; simp [clockMany]), hbl⟩

/-- At most 300 spans, at most 300 marks. -/
def few (l : List Times) : Prop := l.length ≤ 300 ∧ ∀ x ∈ l, x.s.length ≤ 300
def GreatPost (l : List Times) (w : World) (e : Ending) (w' : World) : Prop := ∃ b, e = .returned (.bool b) ∧ (b = false → few l) ∧ Bl w w'

set_option maxRecDepth 100000 in
set_option maxHeartbeats 400000 in
theorem refGreat08 (A : Option Addr) (c : Nat) (l : List Times) (w : World) (hl : l.length ≤ 140737488355328) (hs : ∀ x ∈ l, x.s.length ≤ 140737488355328) (hA : R cTimes 0 w A l) :
    Calls Try.prog 24 #[.slice A l.length c] w (GreatPost l w) := by
  have hs := hide hs
  go_enter Try.func24, Try.ntmps24
  go_wp2
  go_loopw [3, 4] (fun n i wr => Bl w wr ∧ ∃ (k s : Nat), k ≤ l.length ∧ k ≤ 300 ∧ i = .int .i64 k ∧ n = .int .i64 s ∧ s ≤ 300 ∧ Hid (∀ x ∈ l.take k, x.s.length ≤ 300)) (fun _ i _ => l.length - (intOf i).toNat)
  case atStart => exact ⟨Bl.refl _, 0, 0, Nat.zero_le _, Nat.zero_le _, rfl, rfl, Nat.zero_le _, by simp [Hid]⟩
  case round =>
    obtain ⟨hbl, k, s, hk, hk3, rfl, rfl, hs1, hf⟩ := hrel
    by_cases hlt : k < l.length ∧ k < 300
    · obtain ⟨hlt, hlt3⟩ := hlt
      have hR := hA.bl hbl
      obtain ⟨b, off, rfl, _, hb⟩ := hR.addr (by omega)
      obtain ⟨x, hx⟩ := get_lt hlt
      obtain ⟨_, ho, B, d, hcd, hdm, c0, c1, hB⟩ := hR.times hx
      have hd := hide (take_snoc hx)
      have hxs := hs.out x (List.mem_of_getElem? hx)
      clear hx
      by_cases hbg : 300 < s + x.s.length
      · have hbg' : decide ((300 : Int) < (s : Int) + (x.s.length : Int)) = true := by simp; omega
        go_wp2
        go_ret
        exact ⟨true, rfl, fun h => (by cases h), hbl⟩
      · have hbg' : (s : Int) + (x.s.length : Int) ≤ 300 := by omega
        have hbg := hide hbg
        go_wp2
        go_roundw
        case rel => exact ⟨hbl, k + 1, s + x.s.length, by omega, by omega, by go_num, by go_num, by omega, by
          rw [Hid, hd.out]
          intro y hy
          rcases List.mem_append.1 hy with h | h
          · exact hf.out y h
          · simp at h; subst h; omega⟩
        case measure => simp [intOf]; omega
    · by_cases hk' : k < l.length
      · have h300 : ¬ k < 300 := fun h => hlt ⟨hk', h⟩
        have hbg : decide ((300 : Int) < (l.length : Int)) = true := by simp; omega
        clear hlt
        go_wp2
        go_ret
        exact ⟨true, rfl, fun h => (by cases h), hbl⟩
      · have hkl : l.length ≤ k := by omega
        have hl3 : (l.length : Int) ≤ 300 := by omega
        clear hlt
        go_wp2
        go_ret
        exact ⟨_, rfl, fun _ => ⟨by omega, fun y hy => hf.out y (by rw [List.take_of_length_le hkl]; exact hy)⟩, hbl⟩

set_option maxHeartbeats 400000 in
theorem refSame08 (A B : Option Addr) (c d : Nat) (l m : List Times) (w : World) (hl : l.length ≤ maxLen) (_hm : m.length ≤ maxLen) (hA : R cTimes 0 w A l) (hB : R cTimes 0 w B m) :
    Calls Try.prog 32 #[.slice A l.length c, .slice B m.length d] w fun e w' => e = .returned (.bool (same l m)) ∧ Bl w w' := by
  unfold maxLen at hl
  by_cases hne : l.length = m.length
  · have hne1 : ((l.length : Int) != (m.length : Int)) = false := by simp [hne]
    have hle : l.length ≤ m.length := by omega
    have hle' : m.length ≤ l.length := by omega
    clear hne
    go_enter Try.func32, Try.ntmps32
    go_wp2
    go_loopw [5] (fun i wr => Bl w wr ∧ ∃ k : Nat, k ≤ l.length ∧ i = .int .i64 k ∧ Hid (decide (l = m) = decide (l.drop k = m.drop k))) (fun i _ => l.length - (intOf i).toNat)
    case atStart => exact ⟨Bl.refl _, 0, Nat.zero_le _, rfl, rfl⟩
    case round =>
      obtain ⟨hbl, k, hk, rfl, hf⟩ := hrel
      by_cases hlt : k < l.length
      · have hR := hA.bl hbl
        have hS := hB.bl hbl
        obtain ⟨b, off, rfl, _, hb⟩ := hR.addr (by omega)
        obtain ⟨b', off', rfl, _, hb'⟩ := hS.addr (by omega)
        obtain ⟨x, hx⟩ := get_lt hlt
        obtain ⟨y, hy⟩ := get_lt (show k < m.length by omega)
        obtain ⟨_, ho, A1, a1, ha1, ha2, c0, c1, hA1⟩ := hR.times hx
        obtain ⟨_, ho', B1, b1, hb1, hb2, d0, d1, hB1⟩ := hS.times hy
        have hx := hide hx
        have hy := hide hy
        have hi : (k : Int) < (l.length : Int) := by omega
        have hi' : (k : Int) < (m.length : Int) := by omega
        have C0 := fun p : Wd wr => Wd.cell c0 hb p
        have C1 := fun p : Wd wr => Wd.cell c1 hb p
        have D0 := fun p : Wd wr => Wd.cell d0 hb' p
        have D1 := fun p : Wd wr => Wd.cell d1 hb' p
        clear c0 c1 d0 d1
        have hp := eqTimes_parts x y
        have hstep : (eqTimes x y = true → Hid (decide (l = m) = decide (l.drop (k + 1) = m.drop (k + 1)))) ∧ (eqTimes x y = false → false = decide (l = m)) :=
          ⟨fun h => drop_eq_step hf.out hx.out hy.out (eqTimes_true h), fun h => drop_ne_step hf.out hx.out hy.out (eqTimes_false h)⟩
        by_cases hr : x.r = y.r
        · have hne1 : (x.r != y.r) = false := by simp [hr]
          have e1 : (x.r == y.r) = true := by simp [hr]
          rw [e1, Bool.true_and] at hp
          clear e1
          have hr := hide hr
          have hcall := fun W (hW : Bl wr W) => refSame07 A1 B1 a1 b1 x.s y.s W (by omega) (by omega) (hA1.bl hW) (hB1.bl hW)
          rw [hp] at hstep
          clear hp
          cases hq : same x.s y.s
          · have g := hide (hstep.2 hq)
            rw [hq] at hcall
            have hcall := hide hcall
            clear hq hstep
            go_wp2
            (refine wp_region_wd (by kernel_rfl) (by kernel_rfl) ?_
             repeat (go_big_quiet_step ((go_at_call 23; exact Calls.wd (hcall.out _ (Wd.h _)))))
             refine wpQuiet_nil ?_
             intro w2 hw'
             obtain ⟨⟨wx, hb2⟩, hw''⟩ := hw'
             subst hw'')
            go_wp2
            go_ret
            exact ⟨ret_bool g.out, hbl.trans hb2⟩
          · have g := hstep.1 hq
            rw [hq] at hcall
            have hcall := hide hcall
            clear hq hstep
            go_wp2
            (refine wp_region_wd (by kernel_rfl) (by kernel_rfl) ?_
             repeat (go_big_quiet_step ((go_at_call 23; exact Calls.wd (hcall.out _ (Wd.h _)))))
             refine wpQuiet_nil ?_
             intro w2 hw'
             obtain ⟨⟨wx, hb2⟩, hw''⟩ := hw'
             subst hw'')
            go_wp2
            go_roundw
            case rel => exact ⟨hbl.trans hb2, k + 1, by omega, by go_num, g⟩
            case measure => simp [intOf]; omega
        · have hne1 : (x.r != y.r) = true := by simp [hr]
          have e1 : (x.r == y.r) = false := by simp [hr]
          rw [e1, Bool.false_and] at hp
          clear e1 hr
          have g := hide (hstep.2 hp)
          clear hp hstep
          go_wp2
          (refine wp_region_wd (by kernel_rfl) (by kernel_rfl) ?_
           repeat (go_big_quiet_step ((fail)))
           refine wpQuiet_nil ?_
           intro w2 hw'
           obtain ⟨⟨wx, hb2⟩, hw''⟩ := hw'
           subst hw'')
          go_wp2
          go_ret
          exact ⟨ret_bool g.out, hbl.trans hb2⟩
      · have hkl : l.length ≤ k := by omega
        go_wp2
        go_ret
        exact ⟨ret_bool (drop_eq_end hf.out hkl (by omega)), hbl⟩
  · have hne1 : ((l.length : Int) != (m.length : Int)) = true := by simp; omega
    go_enter Try.func32, Try.ntmps32
    go_wp2
    go_ret
    exact ⟨ret_bool (ne_of_length hne), Bl.refl _⟩
end Go.Proofs.Ytiimpmdnkjhcoaa

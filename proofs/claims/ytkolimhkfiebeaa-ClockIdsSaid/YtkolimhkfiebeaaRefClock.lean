/-
  The walks of the references of layer 8.
-/
import Derived.Test.YtkolimhkfiebeaaClockIds
namespace Go.Proofs.Ytkolimhkfiebeaa
open Go.RowKit

/-- At most 300 spans, at most 300 marks. -/
def few (l : List Times) : Prop := l.length ≤ 300 ∧ ∀ x ∈ l, x.s.length ≤ 300
def GreatPost (l : List Times) (w : World) (e : Ending) (w' : World) : Prop := ∃ b, e = .returned (.bool b) ∧ (b = false → few l) ∧ Bl w w'

set_option maxRecDepth 100000 in
set_option maxHeartbeats 400000 in
theorem refGreat08 (A : Option Addr) (c : Nat) (l : List Times) (w : World) (hl : l.length ≤ 140737488355328) (hs : ∀ x ∈ l, x.s.length ≤ 140737488355328) (hA : R cTimes 0 w A l) :
    Calls Try.prog 14 #[.slice A l.length c] w (GreatPost l w) := by
  have hs := hide hs
  go_enter Try.func14, Try.ntmps14
  go_wp2
  go_loopw [3, 4] (fun n i wr => Bl w wr ∧ ∃ (k s : Nat), k ≤ l.length ∧ k ≤ 300 ∧ i = .int .i64 k ∧ n = .int .i64 s ∧ s ≤ 300 ∧ Hid (∀ x ∈ l.take k, x.s.length ≤ 300)) (fun _ i _ => l.length - (intOf i).toNat)
  case atStart => exact ⟨Bl.refl _, 0, 0, Nat.zero_le _, Nat.zero_le _, rfl, rfl, Nat.zero_le _, by simp [Hid]⟩
  case round =>
    obtain ⟨hbl, k, s, hk, hk3, rfl, rfl, hs1, hf⟩ := hrel
    by_cases hlt : k < l.length ∧ k < 300
    · obtain ⟨hlt, hlt3⟩ := hlt
      have hR := hA.bl hbl
      obtain ⟨b, off, rfl, _, hb⟩ := hR.addr (by omega)
      obtain ⟨x, hx⟩ := get_lt hlt
      obtain ⟨_, ho, B, d, hcd, hdm, c0, c1, hB⟩ := hR.times hx
      have hd := hide (take_snoc hx)
      have hxs := hs.out x (List.mem_of_getElem? hx)
      clear hx
      by_cases hbg : 300 < s + x.s.length
      · have hbg' : decide ((300 : Int) < (s : Int) + (x.s.length : Int)) = true := by simp; omega
        go_wp2
        go_ret
        exact ⟨true, rfl, fun h => (by cases h), hbl⟩
      · have hbg' : (s : Int) + (x.s.length : Int) ≤ 300 := by omega
        have hbg := hide hbg
        go_wp2
        go_roundw
        case rel => exact ⟨hbl, k + 1, s + x.s.length, by omega, by omega, by go_num, by go_num, by omega, by
          rw [Hid, hd.out]
          intro y hy
          rcases List.mem_append.1 hy with h | h
          · exact hf.out y h
          · simp at h; subst h; omega⟩
        case measure => simp [intOf]; omega
    · by_cases hk' : k < l.length
      · have h300 : ¬ k < 300 := fun h => hlt ⟨hk', h⟩
        have hbg : decide ((300 : Int) < (l.length : Int)) = true := by simp; omega
        clear hlt
        go_wp2
        go_ret
        exact ⟨true, rfl, fun h => (by cases h), hbl⟩
      · have hkl : l.length ≤ k := by omega
        have hl3 : (l.length : Int) ≤ 300 := by omega
        clear hlt
        go_wp2
        go_ret
        exact ⟨_, rfl, fun _ => ⟨by omega, fun y hy => hf.out y (by rw [List.take_of_length_le hkl]; exact hy)⟩, hbl⟩

set_option maxHeartbeats 400000 in
theorem refSame08 (A B : Option Addr) (c d : Nat) (l m : List Times) (w : World) (hl : l.length ≤ maxLen) (_hm : m.length ≤ maxLen) (hA : R cTimes 0 w A l) (hB : R cTimes 0 w B m) :
    Calls Try.prog 47 #[.slice A l.length c, .slice B m.length d] w fun e w' => e = .returned (.bool (same l m)) ∧ Bl w w' := by
  unfold maxLen at hl
  by_cases hne : l.length = m.length
  · have hne1 : ((l.length : Int) != (m.length : Int)) = false := by simp [hne]
    have hle : l.length ≤ m.length := by omega
    have hle' : m.length ≤ l.length := by omega
    clear hne
    go_enter Try.func47, Try.ntmps47
    go_wp2
    go_loopw [5] (fun i wr => Bl w wr ∧ ∃ k : Nat, k ≤ l.length ∧ i = .int .i64 k ∧ Hid (decide (l = m) = decide (l.drop k = m.drop k))) (fun i _ => l.length - (intOf i).toNat)
    case atStart => exact ⟨Bl.refl _, 0, Nat.zero_le _, rfl, rfl⟩
    case round =>
      obtain ⟨hbl, k, hk, rfl, hf⟩ := hrel
      by_cases hlt : k < l.length
      · have hR := hA.bl hbl
        have hS := hB.bl hbl
        obtain ⟨b, off, rfl, _, hb⟩ := hR.addr (by omega)
        obtain ⟨b', off', rfl, _, hb'⟩ := hS.addr (by omega)
        obtain ⟨x, hx⟩ := get_lt hlt
        obtain ⟨y, hy⟩ := get_lt (show k < m.length by omega)
        obtain ⟨_, ho, A1, a1, ha1, ha2, c0, c1, hA1⟩ := hR.times hx
        obtain ⟨_, ho', B1, b1, hb1, hb2, d0, d1, hB1⟩ := hS.times hy
        have hx := hide hx
        have hy := hide hy
        have hi : (k : Int) < (l.length : Int) := by omega
        have hi' : (k : Int) < (m.length : Int) := by omega
        have C0 := fun p : Wd wr => Wd.cell c0 hb p
        have C1 := fun p : Wd wr => Wd.cell c1 hb p
        have D0 := fun p : Wd wr => Wd.cell d0 hb' p
        have D1 := fun p : Wd wr => Wd.cell d1 hb' p
        clear c0 c1 d0 d1
        have hp := eqTimes_parts x y
        have hstep : (eqTimes x y = true → Hid (decide (l = m) = decide (l.drop (k + 1) = m.drop (k + 1)))) ∧ (eqTimes x y = false → false = decide (l = m)) :=
          ⟨fun h => drop_eq_step hf.out hx.out hy.out (eqTimes_true h), fun h => drop_ne_step hf.out hx.out hy.out (eqTimes_false h)⟩
        by_cases hr : x.r = y.r
        · have hne1 : (x.r != y.r) = false := by simp [hr]
          have e1 : (x.r == y.r) = true := by simp [hr]
          rw [e1, Bool.true_and] at hp
          clear e1
          have hr := hide hr
          have hcall := fun W (hW : Bl wr W) => refSame07 A1 B1 a1 b1 x.s y.s W (by omega) (by omega) (hA1.bl hW) (hB1.bl hW)
          rw [hp] at hstep
          clear hp
          cases hq : same x.s y.s
          · have g := hide (hstep.2 hq)
            rw [hq] at hcall
            have hcall := hide hcall
            clear hq hstep
            go_wp2
            (refine wp_region_wd (by kernel_rfl) (by kernel_rfl) ?_
             repeat (go_big_quiet_step ((go_at_call 108; exact Calls.wd (hcall.out _ (Wd.h _)))))
             refine wpQuiet_nil ?_
             intro w2 hw'
             obtain ⟨⟨wx, hb2⟩, hw''⟩ := hw'
             subst hw'')
            go_wp2
            go_ret
            exact ⟨ret_bool g.out, hbl.trans hb2⟩
          · have g := hstep.1 hq
            rw [hq] at hcall
            have hcall := hide hcall
            clear hq hstep
            go_wp2
            (refine wp_region_wd (by kernel_rfl) (by kernel_rfl) ?_
             repeat (go_big_quiet_step ((go_at_call 108; exact Calls.wd (hcall.out _ (Wd.h _)))))
             refine wpQuiet_nil ?_
             intro w2 hw'
             obtain ⟨⟨wx, hb2⟩, hw''⟩ := hw'
             subst hw'')
            go_wp2
            go_roundw
            case rel => exact ⟨hbl.trans hb2, k + 1, by omega, by go_num, g⟩
            case measure => simp [intOf]; omega
        · have hne1 : (x.r != y.r) = true := by simp [hr]
          have e1 : (x.r == y.r) = false := by simp [hr]
          rw [e1, Bool.false_and] at hp
          clear e1 hr
          have g := hide (hstep.2 hp)
          clear hp hstep
          go_wp2
          (refine wp_region_wd (by kernel_rfl) (by kernel_rfl) ?_
           repeat (go_big_quiet_step ((fail)))
           refine wpQuiet_nil ?_
           intro w2 hw'
           obtain ⟨⟨wx, hb2⟩, hw''⟩ := hw'
           subst hw'')
          go_wp2
          go_ret
          exact ⟨ret_bool g.out, hbl.trans hb2⟩
      · have hkl : l.length ≤ k := by omega
        go_wp2
        go_ret
        exact ⟨ret_bool (drop_eq_end hf.out hkl (by omega)), hbl⟩
  · have hne1 : ((l.length : Int) != (m.length : Int)) = true := by simp; omega
    go_enter Try.func47, Try.ntmps47
    go_wp2
    go_ret
    exact ⟨ret_bool (ne_of_length hne), Bl.refl _⟩
end Go.Proofs.Ytkolimhkfiebeaa

/-
  The walk of octavoref06.SameIds.
-/
import Derived.Test.YtiimpmdnkjhcoaaRefClock
import Derived.Test.YtiimpmdnkjhcoaaEntry
namespace Go.Proofs.Ytiimpmdnkjhcoaa
open Go.RowKit

set_option maxHeartbeats 400000 in
theorem refSameIds (A B : Option Addr) (c d : Nat) (l m : List Id) (w : World) (hl : l.length ≤ maxLen) (_hm : m.length ≤ maxLen) (hA : R cId 0 w A l) (hB : R cId 0 w B m) :
    Calls Try.prog 51 #[.slice A l.length c, .slice B m.length d] w fun e w' => e = .returned (.bool (same l m)) ∧ Bl w w' := by
  unfold maxLen at hl
  by_cases hne : l.length = m.length
  · have hne1 : ((l.length : Int) != (m.length : Int)) = false := by simp [hne]
    have hle : l.length ≤ m.length := by omega
    have hle' : m.length ≤ l.length := by omega
    clear hne
    go_enter Try.func51, Try.ntmps51
    go_wp2
    go_loopw [5] (fun i wr => Bl w wr ∧ ∃ k : Nat, k ≤ l.length ∧ i = .int .i64 k ∧ Hid (decide (l = m) = decide (l.drop k = m.drop k))) (fun i _ => l.length - (intOf i).toNat)
    case atStart => exact ⟨Bl.refl _, 0, Nat.zero_le _, rfl, rfl⟩
    case round =>
      obtain ⟨hbl, k, hk, rfl, hf⟩ := hrel
      by_cases hlt : k < l.length
      · have hR := hA.bl hbl
        have hS := hB.bl hbl
        obtain ⟨b, off, rfl, _, hb⟩ := hR.addr (by omega)
        obtain ⟨b', off', rfl, _, hb'⟩ := hS.addr (by omega)
        obtain ⟨x, hx⟩ := get_lt hlt
        obtain ⟨y, hy⟩ := get_lt (show k < m.length by omega)
        obtain ⟨_, _, c0, c1⟩ := hR.id hx
        obtain ⟨_, _, d0, d1⟩ := hS.id hy
        have C0 := fun p : Wd wr => Wd.cell c0 hb p
        have C1 := fun p : Wd wr => Wd.cell c1 hb p
        have D0 := fun p : Wd wr => Wd.cell d0 hb' p
        have D1 := fun p : Wd wr => Wd.cell d1 hb' p
        clear c0 c1 d0 d1
        replace hx := hide hx
        replace hy := hide hy
        have hi : (k : Int) < (l.length : Int) := by omega
        have hi' : (k : Int) < (m.length : Int) := by omega
        have hne := run_neqId x y
        cases hq : neqId x y
        · have g := hide (drop_eq_step hf.out hx.out hy.out (neqId_false hq))
          rw [hq] at hne
          clear hq
          go_wp2
          (refine wp_region_wd (by kernel_rfl) (by kernel_rfl) ?_
           repeat (go_big_quiet_step ((fail)))
           refine wpQuiet_nil ?_
           intro w2 hw'
           obtain ⟨⟨wx, hb2⟩, hw''⟩ := hw'
           subst hw'')
          go_wp2
          go_roundw
          case rel => exact ⟨hbl.trans hb2, k + 1, by omega, by go_num, g⟩
          case measure => simp [intOf]; omega
        · have g := hide (drop_ne_step hf.out hx.out hy.out (neqId_true hq))
          rw [hq] at hne
          clear hq
          go_wp2
          (refine wp_region_wd (by kernel_rfl) (by kernel_rfl) ?_
           repeat (go_big_quiet_step ((fail)))
           refine wpQuiet_nil ?_
           intro w2 hw'
           obtain ⟨⟨wx, hb2⟩, hw''⟩ := hw'
           subst hw'')
          go_wp2
          go_ret
          exact ⟨ret_bool g.out, hbl.trans hb2⟩
      · have hkl : l.length ≤ k := by omega
        go_wp2
        go_ret
        exact ⟨ret_bool (drop_eq_end hf.out hkl (by omega)), hbl⟩
  · have hne1 : ((l.length : Int) != (m.length : Int)) = true := by simp; omega
    go_enter Try.func51, Try.ntmps51
    go_wp2
    go_ret
    exact ⟨ret_bool (ne_of_length hne), Bl.refl _⟩
end Go.Proofs.Ytiimpmdnkjhcoaa

/-
  Equality: lists of bools, of stamps; entries; shelves. (Printed by wip/bin/gen_eq.py.)
-/
import Derived.Test.YtegmddgbdjlidaaEntry
import Derived.Test.YtegmddgbdjlidaaRefClock
namespace Go.Proofs.Ytegmddgbdjlidaa
open Go.RowKit

theorem run_neqBool (x y : Bool) (W : World) : (binOp .neq 4 (.bool x) (.bool y)).run Try.prog W = .ok (.bool (x != y)) W := by
  have u := Try.underlying4
  go_simp
  cases x <;> cases y <;> rfl
theorem neqBool_false {x y : Bool} (h : (x != y) = false) : x = y := by simpa using h
theorem neqBool_true {x y : Bool} (h : (x != y) = true) : x ≠ y := by simpa using h

set_option maxHeartbeats 400000 in
theorem boolEqual (A B : Option Addr) (c d : Nat) (l m : List Bool) (w : World) (hl : l.length ≤ maxLen) (_hm : m.length ≤ maxLen) (hA : R cBool 0 w A l) (hB : R cBool 0 w B m) :
    Calls Try.prog 56 #[.slice A l.length c, .slice B m.length d] w fun e w' => e = .returned (.bool (same l m)) ∧ Bl w w' := by
  unfold maxLen at hl
  by_cases hne : l.length = m.length
  · have hne1 : ((l.length : Int) != (m.length : Int)) = false := by simp [hne]
    have hle : l.length ≤ m.length := by omega
    have hle' : m.length ≤ l.length := by omega
    clear hne
    go_enter Try.func56, Try.ntmps56
    go_wp2
    go_loopw [13] (fun i wr => Bl w wr ∧ ∃ k : Nat, k ≤ l.length ∧ i = .int .i64 k ∧ Hid (decide (l = m) = decide (l.drop k = m.drop k))) (fun i _ => l.length - (intOf i).toNat)
    case atStart => exact ⟨Bl.refl _, 0, Nat.zero_le _, rfl, rfl⟩
    case round =>
      obtain ⟨hbl, k, hk, rfl, hf⟩ := hrel
      by_cases hlt : k < l.length
      · have hR := hA.bl hbl
        have hS := hB.bl hbl
        obtain ⟨b, off, rfl, _, hb⟩ := hR.addr (by omega)
        obtain ⟨b', off', rfl, _, hb'⟩ := hS.addr (by omega)
        obtain ⟨x, hx⟩ := get_lt hlt
        obtain ⟨y, hy⟩ := get_lt (show k < m.length by omega)
        obtain ⟨_, c0, _⟩ := hR.bool hx
        obtain ⟨_, d0, _⟩ := hS.bool hy
        have C0 := fun p : Wd wr => Wd.cell c0 hb p
        have D0 := fun p : Wd wr => Wd.cell d0 hb' p
        clear c0 d0
        replace hx := hide hx
        replace hy := hide hy
        have hi : (k : Int) < (l.length : Int) := by omega
        have hi' : (k : Int) < (m.length : Int) := by omega
        have hne := run_neqBool x y
        cases hq : x != y
        · have g := hide (drop_eq_step hf.out hx.out hy.out (neqBool_false hq))
          rw [hq] at hne
          clear hq
          go_wp2
          (refine wp_region_wd (by kernel_rfl) (by kernel_rfl) ?_
           repeat (go_big_quiet_step ((fail)))
           refine wpQuiet_nil ?_
           intro w2 hw'
           obtain ⟨⟨wx, hb2⟩, hw''⟩ := hw'
           subst hw'')
          go_wp2
          go_roundw
          case rel => exact ⟨hbl.trans hb2, k + 1, by omega, by go_num, g⟩
          case measure => simp [intOf]; omega
        · have g := hide (drop_ne_step hf.out hx.out hy.out (neqBool_true hq))
          rw [hq] at hne
          clear hq
          go_wp2
          (refine wp_region_wd (by kernel_rfl) (by kernel_rfl) ?_
           repeat (go_big_quiet_step ((fail)))
           refine wpQuiet_nil ?_
           intro w2 hw'
           obtain ⟨⟨wx, hb2⟩, hw''⟩ := hw'
           subst hw'')
          go_wp2
          go_ret
          exact ⟨ret_bool g.out, hbl.trans hb2⟩
      · have hkl : l.length ≤ k := by omega
        go_wp2
        go_ret
        exact ⟨ret_bool (drop_eq_end hf.out hkl (by omega)), hbl⟩
  · have hne1 : ((l.length : Int) != (m.length : Int)) = true := by simp; omega
    go_enter Try.func56, Try.ntmps56
    go_wp2
    go_ret
    exact ⟨ret_bool (ne_of_length hne), Bl.refl _⟩

set_option maxHeartbeats 400000 in
theorem refSameBools (A B : Option Addr) (c d : Nat) (l m : List Bool) (w : World) (hl : l.length ≤ maxLen) (_hm : m.length ≤ maxLen) (hA : R cBool 0 w A l) (hB : R cBool 0 w B m) :
    Calls Try.prog 50 #[.slice A l.length c, .slice B m.length d] w fun e w' => e = .returned (.bool (same l m)) ∧ Bl w w' := by
  unfold maxLen at hl
  by_cases hne : l.length = m.length
  · have hne1 : ((l.length : Int) != (m.length : Int)) = false := by simp [hne]
    have hle : l.length ≤ m.length := by omega
    have hle' : m.length ≤ l.length := by omega
    clear hne
    go_enter Try.func50, Try.ntmps50
    go_wp2
    go_loopw [5] (fun i wr => Bl w wr ∧ ∃ k : Nat, k ≤ l.length ∧ i = .int .i64 k ∧ Hid (decide (l = m) = decide (l.drop k = m.drop k))) (fun i _ => l.length - (intOf i).toNat)
    case atStart => exact ⟨Bl.refl _, 0, Nat.zero_le _, rfl, rfl⟩
    case round =>
      obtain ⟨hbl, k, hk, rfl, hf⟩ := hrel
      by_cases hlt : k < l.length
      · have hR := hA.bl hbl
        have hS := hB.bl hbl
        obtain ⟨b, off, rfl, _, hb⟩ := hR.addr (by omega)
        obtain ⟨b', off', rfl, _, hb'⟩ := hS.addr (by omega)
        obtain ⟨x, hx⟩ := get_lt hlt
        obtain ⟨y, hy⟩ := get_lt (show k < m.length by omega)
        obtain ⟨_, c0, _⟩ := hR.bool hx
        obtain ⟨_, d0, _⟩ := hS.bool hy
        have C0 := fun p : Wd wr => Wd.cell c0 hb p
        have D0 := fun p : Wd wr => Wd.cell d0 hb' p
        clear c0 d0
        replace hx := hide hx
        replace hy := hide hy
        have hi : (k : Int) < (l.length : Int) := by omega
        have hi' : (k : Int) < (m.length : Int) := by omega
        have hne := run_neqBool x y
        cases hq : x != y
        · have g := hide (drop_eq_step hf.out hx.out hy.out (neqBool_false hq))
          rw [hq] at hne
          clear hq
          go_wp2
          (refine wp_region_wd (by kernel_rfl) (by kernel_rfl) ?_
           repeat (go_big_quiet_step ((fail)))
           refine wpQuiet_nil ?_
           intro w2 hw'
           obtain ⟨⟨wx, hb2⟩, hw''⟩ := hw'
           subst hw'')
          go_wp2
          go_roundw
          case rel => exact ⟨hbl.trans hb2, k + 1, by omega, by go_num, g⟩
          case measure => simp [intOf]; omega
        · have g := hide (drop_ne_step hf.out hx.out hy.out (neqBool_true hq))
          rw [hq] at hne
          clear hq
          go_wp2
          (refine wp_region_wd (by kernel_rfl) (by kernel_rfl) ?_
           repeat (go_big_quiet_step ((fail)))
           refine wpQuiet_nil ?_
           intro w2 hw'
           obtain ⟨⟨wx, hb2⟩, hw''⟩ := hw'
           subst hw'')
          go_wp2
          go_ret
          exact ⟨ret_bool g.out, hbl.trans hb2⟩
      · have hkl : l.length ≤ k := by omega
        go_wp2
        go_ret
        exact ⟨ret_bool (drop_eq_end hf.out hkl (by omega)), hbl⟩
  · have hne1 : ((l.length : Int) != (m.length : Int)) = true := by simp; omega
    go_enter Try.func50, Try.ntmps50
    go_wp2
    go_ret
    exact ⟨ret_bool (ne_of_length hne), Bl.refl _⟩

set_option maxHeartbeats 400000 in
theorem idEqual (A B : Option Addr) (c d : Nat) (l m : List Id) (w : World) (hl : l.length ≤ maxLen) (_hm : m.length ≤ maxLen) (hA : R cId 0 w A l) (hB : R cId 0 w B m) :
    Calls Try.prog 60 #[.slice A l.length c, .slice B m.length d] w fun e w' => e = .returned (.bool (same l m)) ∧ Bl w w' := by
  unfold maxLen at hl
  by_cases hne : l.length = m.length
  · have hne1 : ((l.length : Int) != (m.length : Int)) = false := by simp [hne]
    have hle : l.length ≤ m.length := by omega
    have hle' : m.length ≤ l.length := by omega
    clear hne
    go_enter Try.func60, Try.ntmps60
    go_wp2
    go_loopw [13] (fun i wr => Bl w wr ∧ ∃ k : Nat, k ≤ l.length ∧ i = .int .i64 k ∧ Hid (decide (l = m) = decide (l.drop k = m.drop k))) (fun i _ => l.length - (intOf i).toNat)
    case atStart => exact ⟨Bl.refl _, 0, Nat.zero_le _, rfl, rfl⟩
    case round =>
      obtain ⟨hbl, k, hk, rfl, hf⟩ := hrel
      by_cases hlt : k < l.length
      · have hR := hA.bl hbl
        have hS := hB.bl hbl
        obtain ⟨b, off, rfl, _, hb⟩ := hR.addr (by omega)
        obtain ⟨b', off', rfl, _, hb'⟩ := hS.addr (by omega)
        obtain ⟨x, hx⟩ := get_lt hlt
        obtain ⟨y, hy⟩ := get_lt (show k < m.length by omega)
        obtain ⟨_, _, c0, c1⟩ := hR.id hx
        obtain ⟨_, _, d0, d1⟩ := hS.id hy
        have C0 := fun p : Wd wr => Wd.cell c0 hb p
        have C1 := fun p : Wd wr => Wd.cell c1 hb p
        have D0 := fun p : Wd wr => Wd.cell d0 hb' p
        have D1 := fun p : Wd wr => Wd.cell d1 hb' p
        clear c0 c1 d0 d1
        replace hx := hide hx
        replace hy := hide hy
        have hi : (k : Int) < (l.length : Int) := by omega
        have hi' : (k : Int) < (m.length : Int) := by omega
        have hne := run_neqId x y
        cases hq : neqId x y
        · have g := hide (drop_eq_step hf.out hx.out hy.out (neqId_false hq))
          rw [hq] at hne
          clear hq
          go_wp2
          (refine wp_region_wd (by kernel_rfl) (by kernel_rfl) ?_
           repeat (go_big_quiet_step ((fail)))
           refine wpQuiet_nil ?_
           intro w2 hw'
           obtain ⟨⟨wx, hb2⟩, hw''⟩ := hw'
           subst hw'')
          go_wp2
          go_roundw
          case rel => exact ⟨hbl.trans hb2, k + 1, by omega, by go_num, g⟩
          case measure => simp [intOf]; omega
        · have g := hide (drop_ne_step hf.out hx.out hy.out (neqId_true hq))
          rw [hq] at hne
          clear hq
          go_wp2
          (refine wp_region_wd (by kernel_rfl) (by kernel_rfl) ?_
           repeat (go_big_quiet_step ((fail)))
           refine wpQuiet_nil ?_
           intro w2 hw'
           obtain ⟨⟨wx, hb2⟩, hw''⟩ := hw'
           subst hw'')
          go_wp2
          go_ret
          exact ⟨ret_bool g.out, hbl.trans hb2⟩
      · have hkl : l.length ≤ k := by omega
        go_wp2
        go_ret
        exact ⟨ret_bool (drop_eq_end hf.out hkl (by omega)), hbl⟩
  · have hne1 : ((l.length : Int) != (m.length : Int)) = true := by simp; omega
    go_enter Try.func60, Try.ntmps60
    go_wp2
    go_ret
    exact ⟨ret_bool (ne_of_length hne), Bl.refl _⟩

set_option maxHeartbeats 400000 in
theorem refSameIds (A B : Option Addr) (c d : Nat) (l m : List Id) (w : World) (hl : l.length ≤ maxLen) (_hm : m.length ≤ maxLen) (hA : R cId 0 w A l) (hB : R cId 0 w B m) :
    Calls Try.prog 100 #[.slice A l.length c, .slice B m.length d] w fun e w' => e = .returned (.bool (same l m)) ∧ Bl w w' := by
  unfold maxLen at hl
  by_cases hne : l.length = m.length
  · have hne1 : ((l.length : Int) != (m.length : Int)) = false := by simp [hne]
    have hle : l.length ≤ m.length := by omega
    have hle' : m.length ≤ l.length := by omega
    clear hne
    go_enter Try.func100, Try.ntmps100
    go_wp2
    go_loopw [5] (fun i wr => Bl w wr ∧ ∃ k : Nat, k ≤ l.length ∧ i = .int .i64 k ∧ Hid (decide (l = m) = decide (l.drop k = m.drop k))) (fun i _ => l.length - (intOf i).toNat)
    case atStart => exact ⟨Bl.refl _, 0, Nat.zero_le _, rfl, rfl⟩
    case round =>
      obtain ⟨hbl, k, hk, rfl, hf⟩ := hrel
      by_cases hlt : k < l.length
      · have hR := hA.bl hbl
        have hS := hB.bl hbl
        obtain ⟨b, off, rfl, _, hb⟩ := hR.addr (by omega)
        obtain ⟨b', off', rfl, _, hb'⟩ := hS.addr (by omega)
        obtain ⟨x, hx⟩ := get_lt hlt
        obtain ⟨y, hy⟩ := get_lt (show k < m.length by omega)
        obtain ⟨_, _, c0, c1⟩ := hR.id hx
        obtain ⟨_, _, d0, d1⟩ := hS.id hy
        have C0 := fun p : Wd wr => Wd.cell c0 hb p
        have C1 := fun p : Wd wr => Wd.cell c1 hb p
        have D0 := fun p : Wd wr => Wd.cell d0 hb' p
        have D1 := fun p : Wd wr => Wd.cell d1 hb' p
        clear c0 c1 d0 d1
        replace hx := hide hx
        replace hy := hide hy
        have hi : (k : Int) < (l.length : Int) := by omega
        have hi' : (k : Int) < (m.length : Int) := by omega
        have hne := run_neqId x y
        cases hq : neqId x y
        · have g := hide (drop_eq_step hf.out hx.out hy.out (neqId_false hq))
          rw [hq] at hne
          clear hq
          go_wp2
          (refine wp_region_wd (by kernel_rfl) (by kernel_rfl) ?_
           repeat (go_big_quiet_step ((fail)))
           refine wpQuiet_nil ?_
           intro w2 hw'
           obtain ⟨⟨wx, hb2⟩, hw''⟩ := hw'
           subst hw'')
          go_wp2
          go_roundw
          case rel => exact ⟨hbl.trans hb2, k + 1, by omega, by go_num, g⟩
          case measure => simp [intOf]; omega
        · have g := hide (drop_ne_step hf.out hx.out hy.out (neqId_true hq))
          rw [hq] at hne
          clear hq
          go_wp2
          (refine wp_region_wd (by kernel_rfl) (by kernel_rfl) ?_
           repeat (go_big_quiet_step ((fail)))
           refine wpQuiet_nil ?_
           intro w2 hw'
           obtain ⟨⟨wx, hb2⟩, hw''⟩ := hw'
           subst hw'')
          go_wp2
          go_ret
          exact ⟨ret_bool g.out, hbl.trans hb2⟩
      · have hkl : l.length ≤ k := by omega
        go_wp2
        go_ret
        exact ⟨ret_bool (drop_eq_end hf.out hkl (by omega)), hbl⟩
  · have hne1 : ((l.length : Int) != (m.length : Int)) = true := by simp; omega
    go_enter Try.func100, Try.ntmps100
    go_wp2
    go_ret
    exact ⟨ret_bool (ne_of_length hne), Bl.refl _⟩

/-! ### Entries -/
def eqEntry (x y : Entry) : Bool := decide (x = y)
theorem eqEntry_true {x y : Entry} (h : eqEntry x y = true) : x = y := by unfold eqEntry at h; simpa using h
theorem eqEntry_false {x y : Entry} (h : eqEntry x y = false) : x ≠ y := by unfold eqEntry at h; simpa using h
theorem eqEntry_no {x y : Entry} (h : x ≠ y) : false = eqEntry x y := by unfold eqEntry; simp [h]
theorem eqEntry_parts (x y : Entry) : eqEntry x y = ((!neqId x.id y.id) && (x.ready == y.ready) && (x.pin == y.pin) && (x.used == y.used) && (x.known == y.known) && same x.snap y.snap && same x.got y.got) := by
  unfold eqEntry same neqId
  rw [Bool.eq_iff_iff]
  cases x; cases y
  simp [and_assoc]
theorem run_eqBool (x y : Bool) (W : World) : (binOp .eql 4 (.bool x) (.bool y)).run Try.prog W = .ok (.bool (x == y)) W := by
  have u := Try.underlying4
  go_simp
theorem lt_of_alloc2 {w w' : World} {o p : Obj} (h : Bl ((w.alloc o).alloc p) w') : w.heap.size + 1 < w'.heap.size := by
  have := h.size
  rw [World.size_alloc, World.size_alloc] at this
  omega

set_option maxRecDepth 100000 in
set_option maxHeartbeats 2000000 in
theorem refSameOne (x y : Entry) (A B A' B' : Option Addr) (c d c' d' : Nat) (w : World) (h1 : x.snap.length ≤ maxLen) (h2 : x.got.length ≤ maxLen) (h3 : y.snap.length ≤ maxLen) (h4 : y.got.length ≤ maxLen)
    (hA : R cTimes 0 w A x.snap) (hB : R cBool 0 w B x.got) (hA' : R cTimes 0 w A' y.snap) (hB' : R cBool 0 w B' y.got) :
    Calls Try.prog 17 #[.agg #[.int .u32 x.id.t, .int .u8 x.id.r, .bool x.ready, .bool x.pin, .int .i64 x.used, .bool x.known, .slice A x.snap.length c, .slice B x.got.length d], .agg #[.int .u32 y.id.t, .int .u8 y.id.r, .bool y.ready, .bool y.pin, .int .i64 y.used, .bool y.known, .slice A' y.snap.length c', .slice B' y.got.length d']] w fun e w' => e = .returned (.bool (eqEntry x y)) ∧ Bl w w' := by
  have hp := eqEntry_parts x y
  have hbw : ∀ o p, Bl w ((w.alloc o).alloc p) := fun o p => ((Bl.refl _).alloc o).alloc p
  have hid := run_eqId x.id y.id
  have hs := fun W (hW : Bl w W) => refSame08 A A' c c' x.snap y.snap W h1 h3 (hA.bl hW) (hA'.bl hW)
  have hg := fun W (hW : Bl w W) => refSameBools B B' d d' x.got y.got W h2 h4 (hB.bl hW) (hB'.bl hW)
  clear h1 h2 h3 h4 hA hB hA' hB'
  cases e1 : neqId x.id y.id
  · rw [e1] at hp hid
    cases e2 : (x.ready == y.ready)
    · have g := hide (show false = eqEntry x y by rw [eqEntry_parts]; simp [*])
      replace hs := hide hs
      clear hg hp
      go_enter Try.func17, Try.ntmps17
      go_wp2_with (go_at_call 35; refine (hs.out _ (hbw _ _)).mono ?_; rintro e w1 ⟨rfl, hb1⟩; have hbf := (hbw _ _).trans hb1)
      go_ret
      exact ⟨ret_bool g.out, by first | exact hbf | exact hbw _ _⟩
    cases e3 : (x.pin == y.pin)
    · have g := hide (show false = eqEntry x y by rw [eqEntry_parts]; simp [*])
      replace hs := hide hs
      clear hg hp
      go_enter Try.func17, Try.ntmps17
      go_wp2_with (go_at_call 35; refine (hs.out _ (hbw _ _)).mono ?_; rintro e w1 ⟨rfl, hb1⟩; have hbf := (hbw _ _).trans hb1)
      go_ret
      exact ⟨ret_bool g.out, by first | exact hbf | exact hbw _ _⟩
    cases e4 : (x.used == y.used)
    · have g := hide (show false = eqEntry x y by rw [eqEntry_parts]; simp [*])
      replace hs := hide hs
      clear hg hp
      go_enter Try.func17, Try.ntmps17
      go_wp2_with (go_at_call 35; refine (hs.out _ (hbw _ _)).mono ?_; rintro e w1 ⟨rfl, hb1⟩; have hbf := (hbw _ _).trans hb1)
      go_ret
      exact ⟨ret_bool g.out, by first | exact hbf | exact hbw _ _⟩
    cases e5 : (x.known == y.known)
    · have g := hide (show false = eqEntry x y by rw [eqEntry_parts]; simp [*])
      replace hs := hide hs
      clear hg hp
      go_enter Try.func17, Try.ntmps17
      go_wp2_with (go_at_call 35; refine (hs.out _ (hbw _ _)).mono ?_; rintro e w1 ⟨rfl, hb1⟩; have hbf := (hbw _ _).trans hb1)
      go_ret
      exact ⟨ret_bool g.out, by first | exact hbf | exact hbw _ _⟩
    cases e6 : same x.snap y.snap
    · rw [e6] at hs
      have g := hide (show false = eqEntry x y by rw [eqEntry_parts]; simp [*])
      replace hs := hide hs
      clear hg hp
      go_enter Try.func17, Try.ntmps17
      go_wp2_with (go_at_call 35; refine (hs.out _ (hbw _ _)).mono ?_; rintro e w1 ⟨rfl, hb1⟩; have hbf := (hbw _ _).trans hb1)
      go_ret
      exact ⟨ret_bool g.out, by first | exact hbf | exact hbw _ _⟩
    rw [e6] at hs
    rw [e2, e3, e4, e5, e6] at hp
    simp only [Bool.not_false, Bool.true_and] at hp
    replace hp := hide hp.symm
    replace hs := hide hs
    replace hg := hide hg
    clear e1 e6
    go_enter Try.func17, Try.ntmps17
    go_wp2_with (first | (go_at_call 35; refine (hs.out _ (hbw _ _)).mono ?_; rintro e w1 ⟨rfl, hb1⟩; have hc1 := hb1.cells; have hz1 := lt_of_alloc2 hb1; have hbf := (hbw _ _).trans hb1) | (go_at_call 50; refine (hg.out _ hbf).mono ?_; rintro e w2 ⟨rfl, hb2⟩))
    go_ret
    exact ⟨ret_bool hp.out, hbf.trans hb2⟩
  · rw [e1] at hid
    have g := hide (show false = eqEntry x y by rw [eqEntry_parts]; simp [*])
    replace hs := hide hs
    clear hg hp
    go_enter Try.func17, Try.ntmps17
    go_wp2_with (go_at_call 35; refine (hs.out _ (hbw _ _)).mono ?_; rintro e w1 ⟨rfl, hb1⟩; have hbf := (hbw _ _).trans hb1)
    go_ret
    exact ⟨ret_bool g.out, by first | exact hbf | exact hbw _ _⟩

set_option maxRecDepth 100000 in
set_option maxHeartbeats 2000000 in
theorem shelfSame1 (x y : Entry) (A B A' B' : Option Addr) (c d c' d' : Nat) (w : World) (h1 : x.snap.length ≤ maxLen) (h2 : x.got.length ≤ maxLen) (h3 : y.snap.length ≤ maxLen) (h4 : y.got.length ≤ maxLen)
    (hA : R cTimes 0 w A x.snap) (hB : R cBool 0 w B x.got) (hA' : R cTimes 0 w A' y.snap) (hB' : R cBool 0 w B' y.got) :
    Calls Try.prog 54 #[.agg #[.int .u32 x.id.t, .int .u8 x.id.r, .bool x.ready, .bool x.pin, .int .i64 x.used, .bool x.known, .slice A x.snap.length c, .slice B x.got.length d], .agg #[.int .u32 y.id.t, .int .u8 y.id.r, .bool y.ready, .bool y.pin, .int .i64 y.used, .bool y.known, .slice A' y.snap.length c', .slice B' y.got.length d']] w fun e w' => e = .returned (.bool (eqEntry x y)) ∧ Bl w w' := by
  have hp := eqEntry_parts x y
  have hbw : ∀ o p, Bl w ((w.alloc o).alloc p) := fun o p => ((Bl.refl _).alloc o).alloc p
  have hid := run_eqId x.id y.id
  have hs := fun W (hW : Bl w W) => clockSame A A' c c' x.snap y.snap W h1 h3 (hA.bl hW) (hA'.bl hW)
  have hg := fun W (hW : Bl w W) => boolEqual B B' d d' x.got y.got W h2 h4 (hB.bl hW) (hB'.bl hW)
  clear h1 h2 h3 h4 hA hB hA' hB'
  cases e1 : neqId x.id y.id
  · rw [e1] at hp hid
    cases e2 : (x.ready == y.ready)
    · have g := hide (show false = eqEntry x y by rw [eqEntry_parts]; simp [*])
      replace hs := hide hs
      clear hg hp
      go_enter Try.func54, Try.ntmps54
      go_wp2_with (go_at_call 55; refine (hs.out _ (hbw _ _)).mono ?_; rintro e w1 ⟨rfl, hb1⟩; have hbf := (hbw _ _).trans hb1)
      go_ret
      exact ⟨ret_bool g.out, by first | exact hbf | exact hbw _ _⟩
    cases e3 : (x.pin == y.pin)
    · have g := hide (show false = eqEntry x y by rw [eqEntry_parts]; simp [*])
      replace hs := hide hs
      clear hg hp
      go_enter Try.func54, Try.ntmps54
      go_wp2_with (go_at_call 55; refine (hs.out _ (hbw _ _)).mono ?_; rintro e w1 ⟨rfl, hb1⟩; have hbf := (hbw _ _).trans hb1)
      go_ret
      exact ⟨ret_bool g.out, by first | exact hbf | exact hbw _ _⟩
    cases e4 : (x.used == y.used)
    · have g := hide (show false = eqEntry x y by rw [eqEntry_parts]; simp [*])
      replace hs := hide hs
      clear hg hp
      go_enter Try.func54, Try.ntmps54
      go_wp2_with (go_at_call 55; refine (hs.out _ (hbw _ _)).mono ?_; rintro e w1 ⟨rfl, hb1⟩; have hbf := (hbw _ _).trans hb1)
      go_ret
      exact ⟨ret_bool g.out, by first | exact hbf | exact hbw _ _⟩
    cases e5 : (x.known == y.known)
    · have g := hide (show false = eqEntry x y by rw [eqEntry_parts]; simp [*])
      replace hs := hide hs
      clear hg hp
      go_enter Try.func54, Try.ntmps54
      go_wp2_with (go_at_call 55; refine (hs.out _ (hbw _ _)).mono ?_; rintro e w1 ⟨rfl, hb1⟩; have hbf := (hbw _ _).trans hb1)
      go_ret
      exact ⟨ret_bool g.out, by first | exact hbf | exact hbw _ _⟩
    cases e6 : same x.snap y.snap
    · rw [e6] at hs
      have g := hide (show false = eqEntry x y by rw [eqEntry_parts]; simp [*])
      replace hs := hide hs
      clear hg hp
      go_enter Try.func54, Try.ntmps54
      go_wp2_with (go_at_call 55; refine (hs.out _ (hbw _ _)).mono ?_; rintro e w1 ⟨rfl, hb1⟩; have hbf := (hbw _ _).trans hb1)
      go_ret
      exact ⟨ret_bool g.out, by first | exact hbf | exact hbw _ _⟩
    rw [e6] at hs
    rw [e2, e3, e4, e5, e6] at hp
    simp only [Bool.not_false, Bool.true_and] at hp
    replace hp := hide hp.symm
    replace hs := hide hs
    replace hg := hide hg
    clear e1 e6
    go_enter Try.func54, Try.ntmps54
    go_wp2_with (first | (go_at_call 55; refine (hs.out _ (hbw _ _)).mono ?_; rintro e w1 ⟨rfl, hb1⟩; have hc1 := hb1.cells; have hz1 := lt_of_alloc2 hb1; have hbf := (hbw _ _).trans hb1) | (go_at_call 56; refine (hg.out _ hbf).mono ?_; rintro e w2 ⟨rfl, hb2⟩))
    go_ret
    exact ⟨ret_bool hp.out, hbf.trans hb2⟩
  · rw [e1] at hid
    have g := hide (show false = eqEntry x y by rw [eqEntry_parts]; simp [*])
    replace hs := hide hs
    clear hg hp
    go_enter Try.func54, Try.ntmps54
    go_wp2_with (go_at_call 55; refine (hs.out _ (hbw _ _)).mono ?_; rintro e w1 ⟨rfl, hb1⟩; have hbf := (hbw _ _).trans hb1)
    go_ret
    exact ⟨ret_bool g.out, by first | exact hbf | exact hbw _ _⟩
end Go.Proofs.Ytegmddgbdjlidaa

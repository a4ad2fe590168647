/-
  The walks of place.Same, Twin, point.Check, and of package op.
-/
import Derived.Test.YtedcopjpgijpjaaPlace
namespace Go.Proofs.Ytedcopjpgijpjaa
open Go.RowKit

/-! ### Equality of runs, of places -/
def neqRun (x y : Run) : Bool := !decide (x = y)
theorem run_neqRun (x y : Run) (W : World) : (binOp .neq 71 (.agg #[.int .u32 x.t, .int .u8 x.r, .int .i64 x.m]) (.agg #[.int .u32 y.t, .int .u8 y.r, .int .i64 y.m])).run Try.prog W = .ok (.bool (neqRun x y)) W := by
  have u3 := Try.underlying28
  have a3 := Try.isAgg28
  have z3 := Try.sizeOf28
  have u5 := Try.underlying5
  have a5 := Try.isAgg5
  have z5 := Try.sizeOf5
  have u7 := Try.underlying3
  have a7 := Try.isAgg3
  have z7 := Try.sizeOf3
  have hS : Try.prog.underlying 71 = some (.struct (Try.prog.fieldsOf 71)) := by kernel_rfl
  have hp : Try.prog.stoodInHeld 71 = false := by kernel_rfl
  rw [run_neq_struct, show (10000 : Nat) = 9999 + 1 from rfl, run_equalIn_agg W 9999 71 _ _ hS hp]
  simp only [Program.fieldsOf, Try.underlying71]
  go_simp
  have e : neqRun x y = !(x.t == y.t && (x.r == y.r && x.m == y.m)) := by
    unfold neqRun
    by_cases h : x = y
    · subst h; simp
    · have : ¬ (x.t = y.t ∧ x.r = y.r ∧ x.m = y.m) := fun h' => h (Run.ext' h'.1 h'.2.1 h'.2.2)
      simp [h]; by_cases h1 : x.t = y.t <;> by_cases h2 : x.r = y.r <;> by_cases h3 : x.m = y.m <;> simp_all
  rw [e]
  by_cases h1 : x.t = y.t <;> by_cases h2 : x.r = y.r <;> by_cases h3 : x.m = y.m <;> simp [h1, h2, h3]
theorem neqRun_false {x y : Run} (h : neqRun x y = false) : x = y := by unfold neqRun at h; simpa using h
theorem neqRun_true {x y : Run} (h : neqRun x y = true) : x ≠ y := by unfold neqRun at h; simpa using h

set_option maxHeartbeats 400000 in
theorem runEqual (A B : Option Addr) (c d : Nat) (l m : List Run) (w : World) (hl : l.length ≤ maxLen) (_hm : m.length ≤ maxLen) (hA : R cRun 0 w A l) (hB : R cRun 0 w B m) :
    Calls Try.prog 75 #[.slice A l.length c, .slice B m.length d] w fun e w' => e = .returned (.bool (same l m)) ∧ Bl w w' := by
  unfold maxLen at hl
  by_cases hne : l.length = m.length
  · have hne1 : ((l.length : Int) != (m.length : Int)) = false := by simp [hne]
    have hle : l.length ≤ m.length := by omega
    have hle' : m.length ≤ l.length := by omega
    clear hne
    go_enter Try.func75, Try.ntmps75
    go_wp2
    go_loopw [13] (fun i wr => Bl w wr ∧ ∃ k : Nat, k ≤ l.length ∧ i = .int .i64 k ∧ Hid (decide (l = m) = decide (l.drop k = m.drop k))) (fun i _ => l.length - (intOf i).toNat)
    case atStart => exact ⟨Bl.refl _, 0, Nat.zero_le _, rfl, rfl⟩
    case round =>
      obtain ⟨hbl, k, hk, rfl, hf⟩ := hrel
      by_cases hlt : k < l.length
      · have hR := hA.bl hbl
        have hS := hB.bl hbl
        obtain ⟨b, off, rfl, _, hb⟩ := hR.addr (by omega)
        obtain ⟨b', off', rfl, _, hb'⟩ := hS.addr (by omega)
        obtain ⟨x, hx⟩ := get_lt hlt
        obtain ⟨y, hy⟩ := get_lt (show k < m.length by omega)
        obtain ⟨_, ho, c0, c1, c2⟩ := hR.run hx
        obtain ⟨_, ho', d0, d1, d2⟩ := hS.run hy
        have C0 := fun p : Wd wr => Wd.cell c0 hb p
        have C1 := fun p : Wd wr => Wd.cell c1 hb p
        have C2 := fun p : Wd wr => Wd.cell c2 hb p
        have D0 := fun p : Wd wr => Wd.cell d0 hb' p
        have D1 := fun p : Wd wr => Wd.cell d1 hb' p
        have D2 := fun p : Wd wr => Wd.cell d2 hb' p
        clear c0 c1 c2 d0 d1 d2
        have hx := hide hx
        have hy := hide hy
        have hi : (k : Int) < (l.length : Int) := by omega
        have hi' : (k : Int) < (m.length : Int) := by omega
        have hne := run_neqRun x y
        cases hq : neqRun x y
        · have g := hide (drop_eq_step hf.out hx.out hy.out (neqRun_false hq))
          rw [hq] at hne
          clear hq
          go_wp2
          (refine wp_region_wd (by kernel_rfl) (by kernel_rfl) ?_
           repeat (go_big_quiet_step ((fail)))
           refine wpQuiet_nil ?_
           intro w2 hw'
           obtain ⟨⟨wx, hb2⟩, hw''⟩ := hw'
           subst hw'')
          go_wp2
          go_roundw
          case rel => exact ⟨hbl.trans hb2, k + 1, by omega, by go_num, g⟩
          case measure => simp [intOf]; omega
        · have g := hide (drop_ne_step hf.out hx.out hy.out (neqRun_true hq))
          rw [hq] at hne
          clear hq
          go_wp2
          (refine wp_region_wd (by kernel_rfl) (by kernel_rfl) ?_
           repeat (go_big_quiet_step ((fail)))
           refine wpQuiet_nil ?_
           intro w2 hw'
           obtain ⟨⟨wx, hb2⟩, hw''⟩ := hw'
           subst hw'')
          go_wp2
          go_ret
          exact ⟨ret_bool g.out, hbl.trans hb2⟩
      · have hkl : l.length ≤ k := by omega
        go_wp2
        go_ret
        exact ⟨ret_bool (drop_eq_end hf.out hkl (by omega)), hbl⟩
  · have hne1 : ((l.length : Int) != (m.length : Int)) = true := by simp; omega
    go_enter Try.func75, Try.ntmps75
    go_wp2
    go_ret
    exact ⟨ret_bool (ne_of_length hne), Bl.refl _⟩

set_option maxHeartbeats 400000 in
theorem placeSame (A B : Option Addr) (c d : Nat) (l m : List Run) (w : World) (hl : l.length ≤ maxLen) (hm : m.length ≤ maxLen) (hA : R cRun 0 w A l) (hB : R cRun 0 w B m) :
    Calls Try.prog 48 #[.slice A l.length c, .slice B m.length d] w fun e w' => e = .returned (.bool (same l m)) ∧ Bl w w' := by
  go_enter Try.func48, Try.ntmps48
  go_wp2_with (go_at_call 75; refine (runEqual A B c d l m _ hl hm hA hB).mono ?_; rintro e w' ⟨rfl, hb⟩)
  go_ret
  exact ⟨rfl, hb⟩

/-! ### Copies -/
theorem Try.infoRun : (Try.prog.info? 71).map (fun i => (i.zero, i.size, i.bytes)) = some (some (.agg #[.int .u32 0, .int .u8 0, .int .i64 0]), 3, 16) := by kernel_rfl

set_option maxHeartbeats 400000 in
theorem runClone (A : Option Addr) (c : Nat) (l : List Run) (w : World) (hl : l.length ≤ 1048576) (hA : R cRun 0 w A l) :
    Calls Try.prog 96 #[.slice A l.length c] w (New cRun l w) := by
  obtain ⟨i0, hi, hz0, hz1, hz2⟩ := info_parts Try.infoRun
  have hnil := fun (W : World) (a : Option Addr) (n c : Nat) => Lib.run_eql_slice_nil (P := Try.prog) W 31 71 a n c 0 0 Try.underlying31
  have hl : l.length ≤ 9223372036854775807 := by omega
  cases A with
  | none =>
    obtain ⟨_, _, _, h0⟩ := hA.all
    obtain rfl := h0 rfl
    go_enter Try.func96, Try.ntmps96
    go_wp2
    go_ret
    exact ⟨none, 0, rfl, Nat.le_refl _, by unfold maxLen; omega, R.nil, Bl.refl _⟩
  | some ad =>
    go_enter Try.func96, Try.ntmps96
    go_wp2_with (at_builtin
                 refine wpList_append_any2 (C := cRun) (xs := []) (ys := l) rfl (.tmp 5) (.tmp 6) _ rfl 71 i0 _ 16 Try.underlying31 hi hz0 hz1 hz2 rfl (.slice (some ⟨w.heap.size, 0, none⟩) 0 0) w.heap.size rfl (Own.empty (Nat.le_refl _)) (some ad) l.length c rfl rfl ((hA.bl ((Bl.refl _).alloc _)).source flatRun) ?c1 ?c2 ?c3 ?_
                 case c1 => simp only [List.length_nil, maxLen]; omega
                 case c2 => simp only [List.length_nil]; omega
                 case c3 => simp
                 intro v1 w1 hown hg _)
    go_ret
    have hbl := ((Bl.refl w).alloc _).app (Own.empty (C := cRun) (e := 71) (Nat.le_refl _)) (Nat.le_refl _) hg
    simp only [List.nil_append] at hown
    obtain ⟨A', c', rfl, hr, h1, h2⟩ := hown.reads
    exact ⟨A', c', rfl, h1, h2, hr, hbl⟩

set_option maxHeartbeats 400000 in
theorem placeTwin (A : Option Addr) (c : Nat) (l : List Run) (w : World) (hl : l.length ≤ 1048576) (hA : R cRun 0 w A l) :
    Calls Try.prog 65 #[.slice A l.length c] w (New cRun l w) := by
  go_enter Try.func65, Try.ntmps65
  go_wp2_with (go_at_call 96; refine (runClone A c l _ hl hA).mono ?_; rintro e w' ⟨A', c', rfl, h1, h2, hr, hb⟩)
  go_ret
  exact ⟨A', c', rfl, h1, h2, hr, hb⟩

/-! ### Code points -/
def pointIs (n : Int) : Bool := decide (0 ≤ n) && decide (n ≤ 1114111) && (decide (n < 55296) || decide (57343 < n))

set_option maxHeartbeats 400000 in
theorem validRune (n : Int) (w : World) (h0 : 0 ≤ n) (h1 : n ≤ 1114111) :
    Calls Try.prog 117 #[.int .i32 n] w fun e w' => e = .returned (.bool (decide (n < 55296) || decide (57343 < n))) ∧ Bl w w' := by
  go_enter Try.func117, Try.ntmps117
  go_wp2
  all_goals
    go_ret
    exact ⟨ret_bool (by simp_all <;> omega), Bl.refl _⟩

set_option maxHeartbeats 400000 in
theorem pointCheck (n : Int) (w : World) (hn : i64ok n) :
    Calls Try.prog 101 #[.int .i64 n] w fun e w' => e = .returned (.int .i64 (okOr 40 (pointIs n))) ∧ Bl w w' := by
  obtain ⟨n0, n1⟩ := hn
  obtain ⟨N, hN⟩ : ∃ N, N = okOr 40 (pointIs n) := ⟨_, rfl⟩
  rw [← hN]
  by_cases h0 : n < 0
  · have g := hide (show 40 = N by rw [hN]; unfold pointIs; rw [decide_eq_false (show ¬ 0 ≤ n by omega)]; rfl)
    clear hN
    go_enter Try.func101, Try.ntmps101
    go_wp2
    go_ret
    exact ⟨ret_int g.out, Bl.refl _⟩
  by_cases h1 : 1114111 < n
  · have g := hide (show 40 = N by rw [hN]; unfold pointIs; rw [decide_eq_false (show ¬ n ≤ 1114111 by omega), Bool.and_false]; rfl)
    have h0' : 0 ≤ n := by omega
    clear hN h0
    go_enter Try.func101, Try.ntmps101
    go_wp2
    go_ret
    exact ⟨ret_int g.out, Bl.refl _⟩
  have h0' : 0 ≤ n := by omega
  have h1' : n ≤ 1114111 := by omega
  have hv := fun W => validRune n W h0' h1'
  have hpt : pointIs n = (decide (n < 55296) || decide (57343 < n)) := by unfold pointIs; rw [decide_eq_true h0', decide_eq_true h1']; rfl
  rw [← hpt] at hv
  clear h0 h1 hpt
  cases hq : pointIs n
  · have g := hide (show 40 = N by rw [hN, hq]; rfl)
    rw [hq] at hv
    replace hv := hide hv
    clear hN hq
    go_enter Try.func101, Try.ntmps101
    go_wp2_with fail
    refine (hv.out _).mono ?_
    rintro e w1 ⟨rfl, hb1⟩
    go_wp2_with fail
    go_ret
    exact ⟨ret_int g.out, hb1⟩
  · have g := hide (show 0 = N by rw [hN, hq]; rfl)
    rw [hq] at hv
    replace hv := hide hv
    clear hN hq
    go_enter Try.func101, Try.ntmps101
    go_wp2_with fail
    refine (hv.out _).mono ?_
    rintro e w1 ⟨rfl, hb1⟩
    go_wp2_with fail
    go_ret
    exact ⟨ret_int g.out, hb1⟩
end Go.Proofs.Ytedcopjpgijpjaa

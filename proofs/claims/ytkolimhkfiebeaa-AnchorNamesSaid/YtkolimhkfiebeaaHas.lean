/-
  The walks of span.Has and clock.Has.
-/
import Derived.Test.YtkolimhkfiebeaaTable
import Derived.Deep.RegionHeld3
namespace Go.Proofs.Ytkolimhkfiebeaa
open Go.RowKit

def spanIn (x : Span) (t : Int) : Bool := decide (x.f ≤ t) && decide (t ≤ x.t)
theorem spansHave_take {l : List Span} {k : Nat} {x : Span} {t : Int} (h : l[k]? = some x) : spansHave (l.take (k + 1)) t = (spansHave (l.take k) t || spanIn x t) := by
  rw [take_snoc h]
  unfold spansHave
  rw [List.any_append]
  simp [spanIn]

set_option maxHeartbeats 400000 in
theorem spanHas1 (x : Span) (t : Int) (Y : Nat) (w : World) (hY : w.cell? ⟨Y, 0, none⟩ = some (.int .u32 t)) :
    Calls Try.prog 141 #[.agg #[.int .u32 x.f, .int .u32 x.t], .pointer (some ⟨Y, 0, none⟩)] w fun e w' => e = .returned (.bool (spanIn x t)) ∧ Bl w w' := by
  have hYl : Y < w.heap.size := World.block_lt_of_cell? w _ hY
  have hne : Y ≠ w.heap.size := by omega
  have hb : ∀ o, Bl w (w.alloc o) := fun _ => (Bl.refl _).alloc _
  obtain ⟨T, hT⟩ : ∃ T, T = spanIn x t := ⟨_, rfl⟩
  rw [← hT]
  unfold spanIn at hT
  by_cases h1 : x.f ≤ t
  · by_cases h2 : t ≤ x.t
    · have g := hide (show true = T by rw [hT, decide_eq_true h1, decide_eq_true h2]; rfl)
      clear hT
      go_enter Try.func141, Try.ntmps141
      go_wp2
      go_ret
      exact ⟨ret_bool g.out, hb _⟩
    · have g := hide (show false = T by rw [hT, decide_eq_true h1, decide_eq_false h2]; rfl)
      clear hT
      go_enter Try.func141, Try.ntmps141
      go_wp2
      go_ret
      exact ⟨ret_bool g.out, hb _⟩
  · have g := hide (show false = T by rw [hT, decide_eq_false h1]; rfl)
    clear hT
    go_enter Try.func141, Try.ntmps141
    go_wp2
    go_ret
    exact ⟨ret_bool g.out, hb _⟩

set_option maxHeartbeats 1000000 in
theorem spanIndex (A : Option Addr) (c : Nat) (l : List Span) (t : Int) (Y : Nat) (w : World) (hl : l.length ≤ 1048576) (hA : R cSpan 0 w A l) (hY : w.cell? ⟨Y, 0, none⟩ = some (.int .u32 t)) :
    Calls Try.prog 179 #[.slice A l.length c, .func (.func 141) #[] #[.pointer (some ⟨Y, 0, none⟩)]] w fun e w' => ∃ n : Int, e = .returned (.int .i64 n) ∧ decide (0 ≤ n) = spansHave l t ∧ -1 ≤ n ∧ n ≤ 1048576 ∧ Bl w w' := by
  have hYl : Y < w.heap.size := World.block_lt_of_cell? w _ hY
  go_enter Try.func179, Try.ntmps179
  go_wp2
  go_loopw [8] (fun i wr => Bl w wr ∧ ∃ k : Nat, k ≤ l.length ∧ i = .int .i64 k ∧ Hid (spansHave (l.take k) t = false)) (fun i _ => l.length - (intOf i).toNat)
  case atStart => exact ⟨Bl.refl _, 0, Nat.zero_le _, rfl, by simp [Hid, spansHave]⟩
  case round =>
    obtain ⟨hbl, k, hk, rfl, hf⟩ := hrel
    by_cases hlt : k < l.length
    · have hR := hA.bl hbl
      obtain ⟨b, off, rfl, _, hb⟩ := hR.addr (by omega)
      obtain ⟨x, hx⟩ := get_lt hlt
      obtain ⟨_, ho, c0, c1⟩ := hR.span hx
      have hki : (k : Int) < (l.length : Int) := by omega
      have hst := spansHave_take (t := t) hx
      rw [hf.out, Bool.false_or] at hst
      have hall : spanIn x t = true → true = spansHave l t := fun h => by
        unfold spansHave
        rw [eq_comm, List.any_eq_true]
        exact ⟨x, List.mem_of_getElem? hx, h⟩
      have hcl := spanHas1 x t Y wr ((hbl.cell hYl).trans hY)
      cases hq : spanIn x t
      · rw [hq] at hcl hst
        replace hcl := hide hcl
        replace hst := hide hst
        clear hx hq hall hf
        go_wp2_with fail
        refine hcl.out.mono ?_
        rintro e w1 ⟨rfl, hb1⟩
        go_wp2_with fail
        go_roundw
        case rel => exact ⟨hbl.trans hb1, k + 1, by omega, by go_num, hst.out⟩
        case measure => simp [intOf]; omega
      · rw [hq] at hcl
        have g := hide (show decide (0 ≤ (k : Int)) = spansHave l t by rw [← hall hq]; simp)
        replace hcl := hide hcl
        clear hx hq hall hf hst
        go_wp2_with fail
        refine hcl.out.mono ?_
        rintro e w1 ⟨rfl, hb1⟩
        go_wp2_with fail
        go_ret
        exact ⟨_, rfl, g.out, by omega, by omega, hbl.trans hb1⟩
    · have hkl : k = l.length := by omega
      have g := hide (show decide (0 ≤ (-1 : Int)) = spansHave l t by have := hf.out; rw [hkl, List.take_length] at this; rw [this]; rfl)
      clear hf
      go_wp2
      go_ret
      exact ⟨_, rfl, g.out, by omega, by omega, hbl⟩

set_option maxHeartbeats 400000 in
theorem spanContains (A : Option Addr) (c : Nat) (l : List Span) (t : Int) (Y : Nat) (w : World) (hl : l.length ≤ 1048576) (hA : R cSpan 0 w A l) (hY : w.cell? ⟨Y, 0, none⟩ = some (.int .u32 t)) :
    Calls Try.prog 140 #[.slice A l.length c, .func (.func 141) #[] #[.pointer (some ⟨Y, 0, none⟩)]] w fun e w' => e = .returned (.bool (spansHave l t)) ∧ Bl w w' := by
  obtain ⟨T, hT⟩ : ∃ T, T = spansHave l t := ⟨_, rfl⟩
  rw [← hT]
  replace hT := hide hT
  go_enter Try.func140, Try.ntmps140
  go_wp2_with fail
  refine (spanIndex A c l t Y w hl hA hY).mono ?_
  rintro e w1 ⟨n, rfl, hn, hn1, hn2, hb1⟩
  rw [← hT.out] at hn
  by_cases h0 : 0 ≤ n
  · have g := hide (show true = T by rw [← hn]; simp [h0])
    clear hn
    go_wp2_with fail
    go_ret
    exact ⟨ret_bool g.out, hb1⟩
  · have g := hide (show false = T by rw [← hn]; simp [h0])
    clear hn
    go_wp2_with fail
    go_ret
    exact ⟨ret_bool (by rw [← g.out]; simp [h0]), hb1⟩

def spanHasB (l : List Span) (t : Int) : Bool := spansMay l && spansHave l t

set_option maxHeartbeats 400000 in
theorem spanHas (A : Option Addr) (c : Nat) (l : List Span) (t : Int) (w : World) (hl : l.length ≤ maxLen) (hA : R cSpan 0 w A l) :
    Calls Try.prog 95 #[.slice A l.length c, .int .u32 t] w fun e w' => e = .returned (.bool (spanHasB l t)) ∧ Bl w w' := by
  have hchk := fun W (hb : Bl w W) => spanCheck A c l W hl (hA.bl hb)
  have hV0 : Bl w (w.alloc (.cells #[Value.int IntKind.u32 t] 31)) := (Bl.refl _).alloc _
  have hcell : (w.alloc (.cells #[Value.int IntKind.u32 t] 31)).cell? ⟨w.heap.size, 0, none⟩ = some (.int .u32 t) := by
    rw [cell_of_row _ w.heap.size 0 _ _ (0, 0) (heap_alloc_new w _)]; rfl
  unfold spanHasB
  cases hm : spansMay l
  · rw [hm, okOr_false] at hchk
    replace hchk := hide hchk
    clear hm
    go_enter Try.func95, Try.ntmps95
    go_wp2_with fail
    refine (hchk.out _ hV0).mono ?_
    rintro e w1 ⟨rfl, hb1⟩
    go_wp2_with fail
    go_ret
    exact ⟨rfl, hV0.trans hb1⟩
  · rw [hm, okOr_true] at hchk
    replace hchk := hide hchk
    have hl2 : l.length ≤ 1048576 := by
      unfold spansMay at hm
      simp at hm
      omega
    have hcont := hide (fun W (hb : Bl (w.alloc (.cells #[Value.int IntKind.u32 t] 31)) W) => spanContains A c l t w.heap.size W hl2 (hA.bl (hV0.trans hb)) ((hb.cell (World.block_lt_of_cell? _ _ hcell)).trans hcell))
    clear hm
    go_enter Try.func95, Try.ntmps95
    go_wp2_with fail
    refine (hchk.out _ hV0).mono ?_
    rintro e w1 ⟨rfl, hb1⟩
    go_wp2_with fail
    refine (hcont.out _ hb1).mono ?_
    rintro e w2 ⟨rfl, hb2⟩
    go_wp2_with fail
    go_ret
    exact ⟨rfl, hV0.trans (hb1.trans hb2)⟩

/-- Has a clock a stamp? -/
def clockHas (l : List Times) (a : Id) : Bool := clockMay l && spanHasB (tabOf l a.r) a.t

set_option maxRecDepth 100000 in
set_option maxHeartbeats 2000000 in
theorem clockHasC (A : Option Addr) (c : Nat) (l : List Times) (a : Id) (w : World) (hl : l.length ≤ 140737488355328) (ha : a.ok) (hA : R cTimes 0 w A l) :
    Calls Try.prog 36 #[.slice A l.length c, .agg #[.int .u32 a.t, .int .u8 a.r]] w fun e w' => e = .returned (.bool (clockHas l a)) ∧ Bl w w' := by
  obtain ⟨W, hW⟩ : ∃ W, W = w.alloc (.cells #[Value.int IntKind.u32 a.t, Value.int IntKind.u8 a.r] 36) := ⟨_, rfl⟩
  have hbW : Bl w W := by rw [hW]; exact (Bl.refl _).alloc _
  have hat : W.cell? ⟨w.heap.size, 0, none⟩ = some (.int .u32 a.t) ∧ W.cell? ⟨w.heap.size, 1, none⟩ = some (.int .u8 a.r) := by
    rw [hW]
    exact ⟨by rw [cell_of_row _ w.heap.size 0 _ _ (0, 0) (heap_alloc_new w _)]; rfl, by rw [cell_of_row _ w.heap.size 1 _ _ (0, 0) (heap_alloc_new w _)]; rfl⟩
  have hWl := World.block_lt_of_cell? _ _ hat.1
  have kA := hide (fun V (hV : Bl W V) => (⟨(hV.cell hWl).trans hat.1, (hV.cell hWl).trans hat.2⟩ : V.cell? ⟨w.heap.size, 0, none⟩ = some (.int .u32 a.t) ∧ V.cell? ⟨w.heap.size, 1, none⟩ = some (.int .u8 a.r)))
  have hchk := fun V (hb : Bl W V) => clockCheck A c l V (by unfold maxLen; omega) (hA.bl (hbW.trans hb))
  unfold clockHas
  cases hm : clockMay l
  · rw [hm, okOr_false] at hchk
    replace hchk := hide (fun pw : Wd W => hchk pw.v pw.h)
    clear hm
    go_enter Try.func36, Try.ntmps36
    go_wp2_with fail
    rw [← hW]
    clear hW
    (refine wp_region_wd (by kernel_rfl) (by kernel_rfl) ?_
     repeat (go_big_quiet_step ((go_at_call 15; exact Calls.wd (hchk.out _))))
     refine wpQuiet_nil ?_
     intro w1 hw'
     obtain ⟨⟨wx, hb1⟩, hw''⟩ := hw'
     subst hw'')
    go_wp2_with fail
    go_ret
    exact ⟨rfl, hbW.trans hb1⟩
  · rw [hm, okOr_true] at hchk
    replace hchk := hide hchk
    have hwl := hide (fun V (hV : Bl W V) => clockTable A c l V hl (hA.bl (hbW.trans hV)))
    have ha3 := ha.2.2.1
    have ha4 := ha.2.2.2
    clear hm
    go_enter Try.func36, Try.ntmps36
    go_wp2_with fail
    rw [← hW]
    clear hW
    go_region_held3 (fun W' => W'.cell? ⟨w.heap.size, 0, none⟩ = some (.int .u32 a.t) ∧ W'.cell? ⟨w.heap.size, 1, none⟩ = some (.int .u8 a.r))
      (first
        | exact kA.out _ (Bl.refl W).drew
        | exact kA.out _ hb3
        | exact kA.out _ hb2
        | exact kA.out _ hb1
        | go_keep)
      (first
        | (go_at_call 15; refine (hchk.out _ (Bl.refl W).drew).mono ?_; rintro e w1 ⟨rfl, hb10⟩; have hb1 : Bl W w1 := (Bl.refl W).drew.trans hb10)
        | (go_at_call 96; refine (hwl.out _ hb1).mono ?_; rintro e w2 ⟨bm, f, rfl, hmap, htab, hb20⟩; have hb2 : Bl W w2 := hb1.trans hb20; have hlk := hmap.lookup ha3 ha4 129 (by kernel_rfl); obtain ⟨A3, c3, hf3, h31, h32, hr3⟩ := htab a.r; rw [hf3] at hlk; have hsp := hide (spanHas A3 c3 (tabOf l a.r) a.t w2 (Nat.le_trans h31 h32) (hr3.bl hb20)); clear hmap htab hf3)
        | (go_at_call 95; refine hsp.out.mono ?_; rintro e w3 ⟨rfl, hb30⟩; have hb3 : Bl W w3 := hb2.trans hb30))
    go_wp2_with fail
    go_ret
    exact ⟨rfl, hbW.trans hb3⟩
end Go.Proofs.Ytkolimhkfiebeaa

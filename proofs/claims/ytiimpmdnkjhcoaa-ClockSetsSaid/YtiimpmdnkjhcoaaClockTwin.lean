/-
  The walks of clock.Twin, and of the reference's.
-/
import Derived.Test.YtiimpmdnkjhcoaaClock
import Derived.Test.YtiimpmdnkjhcoaaRefSpan
namespace Go.Proofs.Ytiimpmdnkjhcoaa
open Go.RowKit

def smallC (l : List Times) : Prop := l.length ≤ 1048576 ∧ ∀ x ∈ l, x.s.length ≤ 1048576
theorem Try.infoTimes : (Try.prog.info? 73).map (fun i => (i.zero, i.size, i.bytes)) = some (some (.agg #[.int .u8 0, .slice none 0 0]), 2, 32) := by kernel_rfl

set_option maxRecDepth 100000 in
set_option maxHeartbeats 1000000 in
theorem clockTwin (A : Option Addr) (c : Nat) (l : List Times) (w : World) (hl : smallC l) (hA : R cTimes 0 w A l) :
    Calls Try.prog 46 #[.slice A l.length c] w (New cTimes l w) := by
  obtain ⟨i0, hi, hz0, hz1, hz2⟩ := info_parts Try.infoTimes
  obtain ⟨hl, hsm⟩ := hl
  have hsm := hide hsm
  go_enter Try.func46, Try.ntmps46
  go_wp2
  go_loopw [2, 7] (fun v i wr => Bl w wr ∧ ∃ k : Nat, k ≤ l.length ∧ i = .int .i64 k ∧ Own cTimes 73 w.heap.size wr v (l.take k)) (fun _ i _ => l.length - (intOf i).toNat)
  case atStart => exact ⟨Bl.refl _, 0, Nat.zero_le _, rfl, Own.nil⟩
  case round =>
    obtain ⟨hbl, k, hk, rfl, hown⟩ := hrel
    by_cases hlt : k < l.length
    · have hR := hA.bl hbl
      obtain ⟨b, off, rfl, _, hb⟩ := hR.addr (by omega)
      obtain ⟨x, hx⟩ := get_lt hlt
      obtain ⟨_, ho, B, d, hcd, hdm, c0, c1, hB⟩ := hR.times hx
      have hts := hide (take_snoc hx)
      have hxs := hsm.out x (List.mem_of_getElem? hx)
      clear hx
      go_wp2
      obtain ⟨W, hW⟩ : ∃ W, W = wr.alloc (Obj.cells #[Value.int IntKind.u8 x.r, Value.slice B x.s.length d] 73) := ⟨_, rfl⟩
      rw [← hW]
      have hblW : Bl wr W := by rw [hW]; exact (Bl.refl _).alloc _
      have q0 : W.cell? ⟨wr.heap.size, 0, none⟩ = some (.int .u8 x.r) := by rw [hW]; simp
      have q1 : W.cell? ⟨wr.heap.size, 1, none⟩ = some (.slice B x.s.length d) := by rw [hW]; simp
      have hWs : wr.heap.size < W.heap.size := by rw [hW]; simp
      have hW0 : w.heap.size ≤ W.heap.size := (hbl.trans hblW).size
      clear hW
      have hne := fun e => Nat.lt_irrefl _ (hown.lt (b := wr.heap.size) e).2
      have hown := hown.bl hblW
      have hB := hB.bl hblW
      go_region_held3 (fun W' => W'.cell? ⟨wr.heap.size, 0, none⟩ = some (.int .u8 x.r) ∧ W'.cell? ⟨wr.heap.size, 1, none⟩ = some (.slice B x.s.length d))
        (first
          | exact ⟨q0, q1⟩
          | exact ⟨(hb1.cell hWs).trans q0, (hb1.cell hWs).trans q1⟩
          | exact ⟨((hb1.alloc _).cell hWs).trans q0, ((hb1.alloc _).cell hWs).trans q1⟩
          | exact ⟨(grown_far hg2 hne (by simp; omega)).trans (((hb1.alloc _).cell hWs).trans q0), (grown_far hg2 hne (by simp; omega)).trans (((hb1.alloc _).cell hWs).trans q1)⟩
          | go_keep)
        (first
          | (go_at_call 35; refine (spanTwin B d x.s _ hxs (hB.bl (Bl.refl _).drew)).mono ?_; rintro e w1 ⟨A1, c1', rfl, h1, h2, hr1, hb0⟩; have hb1 : Bl W w1 := (Bl.refl W).drew.trans hb0; clear hb0; have hW1 : W.heap.size ≤ w1.heap.size := hb1.size)
          | (refine step_append_any2 (C := cTimes) (xs := l.take k) (ys := [x]) rfl (.tmp 11) (.tmp 18) _ rfl 73 i0 _ 32 Try.underlying37 hi hz0 hz1 hz2 rfl _ w.heap.size rfl ((hown.bl hb1).bl ((Bl.refl _).alloc _)) (some ⟨w1.heap.size, 0, none⟩) 1 _ rfl rfl (hown.src (cs := [Value.int IntKind.u8 x.r, Value.slice A1 x.s.length c1']) hb1 (by omega) ⟨ho, A1, c1', h1, h2, rfl, hr1⟩) ?_ ?_ ?_ ?_; (simp only [maxLen]; simp; omega); (simp; omega); (simp; omega); intro v2 w2 hown2 hg2 _; have hbl2 : Bl w w2 := ((((hbl.trans hblW).trans hb1).alloc _).app ((hown.bl hb1).bl ((Bl.refl _).alloc _)) (Nat.le_refl _) hg2)))
      go_wp2
      go_roundw
      case rel => exact ⟨hbl2, k + 1, by omega, by go_num, by rw [hts.out]; exact hown2⟩
      case measure => simp [intOf]; omega
    · have hkl : l.length ≤ k := by omega
      go_wp2
      go_ret
      rw [List.take_of_length_le hkl] at hown
      obtain ⟨A', c', rfl, hr, h1, h2⟩ := hown.reads
      exact ⟨A', c', rfl, h1, h2, hr, hbl⟩

set_option maxRecDepth 100000 in
set_option maxHeartbeats 1000000 in
theorem refTwin08 (A : Option Addr) (c : Nat) (l : List Times) (w : World) (hl : smallC l) (hA : R cTimes 0 w A l) :
    Calls Try.prog 25 #[.slice A l.length c] w (New cTimes l w) := by
  obtain ⟨i0, hi, hz0, hz1, hz2⟩ := info_parts Try.infoTimes
  obtain ⟨hl, hsm⟩ := hl
  have hsm := hide hsm
  go_enter Try.func25, Try.ntmps25
  go_wp2
  go_loopw [3, 4] (fun v i wr => Bl w wr ∧ ∃ k : Nat, k ≤ l.length ∧ i = .int .i64 k ∧ Own cTimes 73 w.heap.size wr v (l.take k)) (fun _ i _ => l.length - (intOf i).toNat)
  case atStart => exact ⟨Bl.refl _, 0, Nat.zero_le _, rfl, Own.nil⟩
  case round =>
    obtain ⟨hbl, k, hk, rfl, hown⟩ := hrel
    by_cases hlt : k < l.length
    · have hR := hA.bl hbl
      obtain ⟨b, off, rfl, _, hbw⟩ := hA.addr (by omega)
      have hb : b < wr.heap.size := Nat.lt_of_lt_of_le hbw hbl.size
      obtain ⟨x, hx⟩ := get_lt hlt
      obtain ⟨_, ho, B, d, hcd, hdm, c0, c1, hB⟩ := hR.times hx
      have hts := hide (take_snoc hx)
      have hxs := hsm.out x (List.mem_of_getElem? hx)
      clear hx
      go_wp2
      have hW0 : w.heap.size ≤ wr.heap.size := hbl.size
      have hki : (k : Int) < (l.length : Int) := by omega
      have hne := fun e => Nat.lt_irrefl _ (Nat.lt_of_lt_of_le hbw (hown.lt (b := b) e).1)
      go_region_held3 (fun W' => W'.cell? ⟨b, off + k * 2, none⟩ = some (.int .u8 x.r) ∧ W'.cell? ⟨b, off + k * 2 + 1, none⟩ = some (.slice B x.s.length d))
        (first
          | exact ⟨c0, c1⟩
          | exact ⟨(hb1.cell hb).trans c0, (hb1.cell hb).trans c1⟩
          | exact ⟨((hb1.alloc _).cell hb).trans c0, ((hb1.alloc _).cell hb).trans c1⟩
          | exact ⟨(grown_far hg2 hne (by simp; omega)).trans (((hb1.alloc _).cell hb).trans c0), (grown_far hg2 hne (by simp; omega)).trans (((hb1.alloc _).cell hb).trans c1)⟩
          | go_keep)
        (first
          | (go_at_call 34; refine (refTwin07 B d x.s _ hxs (hB.bl (Bl.refl _).drew)).mono ?_; rintro e w1 ⟨A1, c1', rfl, h1, h2, hr1, hb0⟩; have hb1 : Bl wr w1 := (Bl.refl wr).drew.trans hb0; clear hb0; have hW1 : wr.heap.size ≤ w1.heap.size := hb1.size)
          | (refine step_append_any2 (C := cTimes) (xs := l.take k) (ys := [x]) rfl (.tmp 11) (.tmp 24) _ rfl 73 i0 _ 32 Try.underlying37 hi hz0 hz1 hz2 rfl _ w.heap.size rfl ((hown.bl hb1).bl ((Bl.refl _).alloc _)) (some ⟨w1.heap.size, 0, none⟩) 1 _ rfl rfl (hown.src (cs := [Value.int IntKind.u8 x.r, Value.slice A1 x.s.length c1']) hb1 (by omega) ⟨ho, A1, c1', h1, h2, rfl, hr1⟩) ?_ ?_ ?_ ?_; (simp only [maxLen]; simp; omega); (simp; omega); (simp; omega); intro v2 w2 hown2 hg2 _; have hbl2 : Bl w w2 := (((hbl.trans hb1).alloc _).app ((hown.bl hb1).bl ((Bl.refl _).alloc _)) (Nat.le_refl _) hg2)))
      go_wp2
      go_roundw
      case rel => exact ⟨hbl2, k + 1, by omega, by go_num, by rw [hts.out]; exact hown2⟩
      case measure => simp [intOf]; omega
    · have hkl : l.length ≤ k := by omega
      go_wp2
      go_ret
      rw [List.take_of_length_le hkl] at hown
      obtain ⟨A', c', rfl, hr, h1, h2⟩ := hown.reads
      exact ⟨A', c', rfl, h1, h2, hr, hbl⟩
end Go.Proofs.Ytiimpmdnkjhcoaa

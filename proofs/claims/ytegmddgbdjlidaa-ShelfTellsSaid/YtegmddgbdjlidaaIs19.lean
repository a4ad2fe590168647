/-
  The walk of the law ShelfIs.
-/
import Derived.Test.YtegmddgbdjlidaaSpoil19
namespace Go.Proofs.Ytegmddgbdjlidaa
open Go.RowKit

theorem same_self {α : Type} [DecidableEq α] (l : List α) : same l l = true := by unfold same; simp
theorem fewS_small {l : List Entry} (h : fewS l) : smallS l := ⟨by have := h.1; omega, fun x hx => by
  obtain ⟨⟨h1, h2⟩, h3⟩ := h.2 x hx
  exact ⟨⟨by omega, fun y hy => by have := h2 y hy; omega⟩, by omega⟩⟩
theorem refSameSelf (l : List Entry) {A B : Option Addr} {c d : Nat} {w : World} (hl : l.length ≤ maxLen) (hA : R cEntry 0 w A l) (hB : R cEntry 0 w B l) :
    Calls Try.prog 21 #[.slice A l.length c, .slice B l.length d] w fun e w' => e = .returned (.bool true) ∧ Bl w w' := by
  have := refSame19 A B c d l l w hl hl hA hB
  rwa [same_self] at this
theorem shelfSameSelf (l : List Entry) {A B : Option Addr} {c d : Nat} {w : World} (hl : l.length ≤ maxLen) (hA : R cEntry 0 w A l) (hB : R cEntry 0 w B l) :
    Calls Try.prog 20 #[.slice A l.length c, .slice B l.length d] w fun e w' => e = .returned (.bool true) ∧ Bl w w' := by
  have := shelfSame A B c d l l w hl hl hA hB
  rwa [same_self] at this

theorem R.oks {lo : Nat} {w : World} {A : Option Addr} {l : List Entry} (h : R cEntry lo w A l) : ∀ x ∈ l, x.ok := fun x hx => by
  obtain ⟨k, hk⟩ := List.getElem?_of_mem hx
  obtain ⟨b, off, rfl, _, _⟩ := h.addr (by have := (List.getElem?_eq_some_iff.1 hk).1; omega)
  exact (h.entry hk).2.1
theorem findE_ok {l : List Entry} (h : ∀ x ∈ l, x.ok) (s : Id) : (findE l s).ok := by
  unfold findE
  cases shelfMay l
  · exact ok0 false
  · rw [if_pos rfl]
    cases hf : entOf l s
    · exact ok0 false
    · obtain ⟨k, hk, _⟩ := ent_some hf
      exact h _ (List.mem_of_getElem? hk)

set_option maxRecDepth 100000 in
set_option maxHeartbeats 4000000 in
theorem shelfIs (a b : List Entry) (s : Id) (A B : Option Addr) (c d : Nat) (w : World) (hs : s.ok) (ha : a.length ≤ 140737488355328) (hb : b.length ≤ 140737488355328) (hqa : QShelf a) (hqb : QShelf b) (hA : R cEntry 0 w A a) (hB : R cEntry 0 w B b) :
    Calls Try.prog 3 #[.slice A a.length c, .slice B b.length d, .agg #[.int .u32 s.t, .int .u8 s.r]] w fun e w' => e = .returned (.bool true) ∧ Bl w w' := by
  have hqb := hqb
  have hax : a.length ≤ maxLen := by unfold maxLen; omega
  have hbx : b.length ≤ maxLen := by unfold maxLen; omega
  go_enter Try.func3, Try.ntmps3
  go_wp2_with fail
  have hV0 : Bl w (w.alloc (.cells #[Value.int IntKind.u32 s.t, Value.int IntKind.u8 s.r] 25)) := (Bl.refl _).alloc _
  have s0 : (w.alloc (.cells #[Value.int IntKind.u32 s.t, Value.int IntKind.u8 s.r] 25)).cell? ⟨w.heap.size, 0, none⟩ = some (.int .u32 s.t) := by rw [cell_of_row _ w.heap.size 0 _ _ (0, 0) (heap_alloc_new w _)]; rfl
  have s1 : (w.alloc (.cells #[Value.int IntKind.u32 s.t, Value.int IntKind.u8 s.r] 25)).cell? ⟨w.heap.size, 1, none⟩ = some (.int .u8 s.r) := by rw [cell_of_row _ w.heap.size 1 _ _ (0, 0) (heap_alloc_new w _)]; rfl
  have hz0 : w.heap.size < (w.alloc (.cells #[Value.int IntKind.u32 s.t, Value.int IntKind.u8 s.r] 25)).heap.size := by rw [World.size_alloc]; omega
  generalize w.alloc (.cells #[Value.int IntKind.u32 s.t, Value.int IntKind.u8 s.r] 25) = V0 at *
  refine (refGreat19 A c a _ ha hqa (hA.bl hV0)).mono ?_
  rintro e w1 ⟨b1, rfl, hfew, hb1⟩
  replace hfew := hide hfew
  have hw1 := hV0.trans hb1
  cases b1
  rotate_left
  · go_wp2_with fail
    go_ret
    exact ⟨rfl, hw1⟩
  go_wp2_with fail
  refine (refGreat19 B d b _ hb hqb (hB.bl hw1)).mono ?_
  rintro e w2 ⟨b2, rfl, -, hb2⟩
  have hw2 := hw1.trans hb2
  cases b2
  rotate_left
  · go_wp2_with fail
    go_ret
    exact ⟨rfl, hw2⟩
  have hsm := hide (fewS_small (hfew.out (by first | rfl | trivial)))
  have hal : a.length ≤ 80 := (hfew.out (by first | rfl | trivial)).1
  clear hfew
  go_wp2_with fail
  refine (refTwin19 A c a _ hsm.out (hA.bl hw2)).mono ?_
  rintro e w3 ⟨A3, c3, rfl, m1, m2, hr3, hb3⟩
  have hw3 := hw2.trans hb3
  have h03 := (hb1.trans hb2).trans hb3
  have hr3' := hr3.zero
  have S0 := (h03.cell hz0).trans s0
  have S1 := (h03.cell hz0).trans s1
  have hz3 := Nat.lt_of_lt_of_le hz0 h03.size
  go_wp2_with fail
  refine (shelfFind A3 c3 a s _ (by omega) hs hr3').mono ?_
  rintro e w4 ⟨A4, c4, B4, d4, rfl, l1, l2, l3, l4, hS4, hG4, hb4⟩
  have hfd := fun W (h : Bl w W) => refFind19 A c a s W (by omega) (hA.bl h)
  replace hfd := hide hfd
  have hfok := findE_ok hA.oks s
  generalize findE a s = fe at *
  generalize findB a s = fb at *
  have hx4 : Held w4 fe A4 c4 B4 d4 := ⟨l1, l2, l3, l4, hS4.zero, hG4.zero⟩
  replace S0 := (hb4.cell hz3).trans S0
  replace S1 := (hb4.cell hz3).trans S1
  have hz4 := Nat.lt_of_lt_of_le hz3 hb4.size
  go_wp2_with fail
  have at4 : ∀ V, Bl (w4.alloc (.cells #[Value.int IntKind.u32 fe.id.t, Value.int IntKind.u8 fe.id.r, Value.bool fe.ready, Value.bool fe.pin, Value.int IntKind.i64 fe.used, Value.bool fe.known, Value.slice A4 fe.snap.length c4, Value.slice B4 fe.got.length d4] 31)) V → EntAt V w4.heap.size fe A4 c4 B4 d4 := fun V hb => (EntAt.new w4 fe A4 c4 B4 d4 _).bl hb
  have hV4 : Bl w4 (w4.alloc (.cells #[Value.int IntKind.u32 fe.id.t, Value.int IntKind.u8 fe.id.r, Value.bool fe.ready, Value.bool fe.pin, Value.int IntKind.i64 fe.used, Value.bool fe.known, Value.slice A4 fe.snap.length c4, Value.slice B4 fe.got.length d4] 31)) := (Bl.refl _).alloc _
  have hsz4 : (w4.alloc (.cells #[Value.int IntKind.u32 fe.id.t, Value.int IntKind.u8 fe.id.r, Value.bool fe.ready, Value.bool fe.pin, Value.int IntKind.i64 fe.used, Value.bool fe.known, Value.slice A4 fe.snap.length c4, Value.slice B4 fe.got.length d4] 31)).heap.size = w4.heap.size + 1 := World.size_alloc _ _
  replace at4 := hide at4
  generalize w4.alloc (.cells #[Value.int IntKind.u32 fe.id.t, Value.int IntKind.u8 fe.id.r, Value.bool fe.ready, Value.bool fe.pin, Value.int IntKind.i64 fe.used, Value.bool fe.known, Value.slice A4 fe.snap.length c4, Value.slice B4 fe.got.length d4] 31) = V4 at *
  have hb3V := hb4.trans hV4
  have hwV4 := hw3.trans hb3V
  refine (hfd.out _ hwV4).mono ?_
  rintro e w5 ⟨A5, c5, B5, d5, rfl, k1, k2, k3, k4, hS5, hG5, hb5⟩
  have hx5 : Held w5 fe A5 c5 B5 d5 := ⟨k1, k2, k3, k4, hS5.zero, hG5.zero⟩
  clear k1 k2 k3 k4 hS5 hG5
  go_wp2_with fail
  have at5 : ∀ V, Bl (w5.alloc (.cells #[Value.int IntKind.u32 fe.id.t, Value.int IntKind.u8 fe.id.r, Value.bool fe.ready, Value.bool fe.pin, Value.int IntKind.i64 fe.used, Value.bool fe.known, Value.slice A5 fe.snap.length c5, Value.slice B5 fe.got.length d5] 31)) V → EntAt V w5.heap.size fe A5 c5 B5 d5 := fun V hb => (EntAt.new w5 fe A5 c5 B5 d5 _).bl hb
  have hV5 : Bl w5 (w5.alloc (.cells #[Value.int IntKind.u32 fe.id.t, Value.int IntKind.u8 fe.id.r, Value.bool fe.ready, Value.bool fe.pin, Value.int IntKind.i64 fe.used, Value.bool fe.known, Value.slice A5 fe.snap.length c5, Value.slice B5 fe.got.length d5] 31)) := (Bl.refl _).alloc _
  have hsz5 : (w5.alloc (.cells #[Value.int IntKind.u32 fe.id.t, Value.int IntKind.u8 fe.id.r, Value.bool fe.ready, Value.bool fe.pin, Value.int IntKind.i64 fe.used, Value.bool fe.known, Value.slice A5 fe.snap.length c5, Value.slice B5 fe.got.length d5] 31)).heap.size = w5.heap.size + 1 := World.size_alloc _ _
  replace at5 := hide at5
  generalize w5.alloc (.cells #[Value.int IntKind.u32 fe.id.t, Value.int IntKind.u8 fe.id.r, Value.bool fe.ready, Value.bool fe.pin, Value.int IntKind.i64 fe.used, Value.bool fe.known, Value.slice A5 fe.snap.length c5, Value.slice B5 fe.got.length d5] 31) = V5 at *
  have hb3V5 := (hb3V.trans hb5).trans hV5
  have hwV5 := hw3.trans hb3V5
  refine (shelfTwin A3 c3 a _ hsm.out (hr3'.bl hb3V5)).mono ?_
  rintro e w6 ⟨A6, c6, rfl, m3, m4, hr6, hb6⟩
  have hb46 := (hb5.trans hV5).trans hb6
  obtain ⟨x0, x1, x2, x3, x4, x5, x6, x7⟩ := (at4.out _ hb46).cells
  obtain ⟨y0, y1, y2, y3, y4, y5, y6, y7⟩ := (at5.out _ hb6).cells
  go_wp2_with fail
  clear x0 x1 x2 x3 x4 x5 x6 x7 y0 y1 y2 y3 y4 y5 y6 y7
  refine (sameSelf fe _ (hx4.bl (hV4.trans hb46)) (hx5.bl (hV5.trans hb6))).mono ?_
  rintro e w7 ⟨rfl, hb7⟩
  have hqb1 := run_eqBool
  have e1 : (fb == fb) = true := by simp
  have hb37 := (hb3V5.trans hb6).trans hb7
  go_wp2_with fail
  refine (shelfCheck A3 c3 a _ hax (hr3'.bl hb37)).mono ?_
  rintro e w8 ⟨rfl, hb8⟩
  have hb38 := hb37.trans hb8
  go_wp2_with fail
  refine (refCheck19 A c a _ hax (hA.bl (hw3.trans hb38))).mono ?_
  rintro e w9 ⟨rfl, hb9⟩
  generalize okOr 8 (shelfMay a) = nc at *
  have e2 : (nc == nc) = true := by simp
  have hb39 := hb38.trans hb9
  go_wp2_with fail
  refine (shelfSame A3 B c3 d a b _ hax hbx (hr3'.bl hb39) (hB.bl (hw3.trans hb39))).mono ?_
  rintro e w10 ⟨rfl, hb10⟩
  have hb310 := hb39.trans hb10
  go_wp2_with fail
  refine (refSame19 A B c d a b _ hax hbx (hA.bl (hw3.trans hb310)) (hB.bl (hw3.trans hb310))).mono ?_
  rintro e w11 ⟨rfl, hb11⟩
  generalize same a b = sb at *
  have e3 : (sb == sb) = true := by simp
  have hb311 := hb310.trans hb11
  go_wp2_with fail
  refine (shelfSameSelf a hax (hr3'.bl hb311) (hA.bl (hw3.trans hb311))).mono ?_
  rintro e w12 ⟨rfl, hb12⟩
  have hb312 := hb311.trans hb12
  have hb612 := ((((hb7.trans hb8).trans hb9).trans hb10).trans hb11).trans hb12
  go_wp2_with fail
  refine (refSameSelf a hax (hr6.zero.bl hb612) (hA.bl (hw3.trans hb312))).mono ?_
  rintro e w13 ⟨rfl, hb13⟩
  have hb313 := hb312.trans hb13
  have hb613 := hb612.trans hb13
  have hb413 := hb46.trans hb613
  go_wp2_with fail
  refine (spoil19 V5.heap.size A6 c6 a _ (by omega) (hr6.bl hb613)).mono ?_
  rintro e w14 ⟨⟨v, rfl⟩, hbel⟩
  have hz45 : w4.heap.size < V5.heap.size := by have := (hb5.trans hV5).size; omega
  have h1314 : Below w3.heap.size w13 w14 := Below.mono hbel (by have := hb3V5.size; omega)
  have h414 : Below V4.heap.size V4 w14 := Below.trans (B := V4.heap.size) hb413 (Below.mono hbel (by have := (hb5.trans hV5).size; omega))
  have hbl14 : Bl w3 w14 := Below.trans (B := w3.heap.size) hb313 h1314
  obtain ⟨x0, x1, x2, x3, x4, x5, x6, x7⟩ := (at4.out _ h414).cells
  have hx14 := hx4.bl (hV4.trans h414)
  have hS14 := hS4.bl (hV4.trans h414)
  have hG14 := hG4.bl (hV4.trans h414)
  go_wp2_with fail
  clear x0 x1 x2 x3 x4 x5 x6 x7
  have hrs := R.single (C := cEntry) (lo := w3.heap.size) (w := w14) (x := fe) (cs := entryCells fe A4 c4 B4 d4) (t := 31) ⟨hfok, A4, c4, B4, d4, l1, l2, l3, l4, rfl, hS14, hG14⟩ hbl14.size
  refine (spoil19 w3.heap.size _ 1 [fe] _ (by simp) hrs).mono ?_
  rintro e w15 ⟨⟨v', rfl⟩, hbel2⟩
  have hbl15 : Bl w3 w15 := Below.trans (B := w3.heap.size) (hbl14.alloc _) hbel2
  go_wp2_with fail
  refine (refSameSelf a hax (hr3'.bl hbl15) (hA.bl (hw3.trans hbl15))).mono ?_
  rintro e w16 ⟨rfl, hb16⟩
  go_wp2_with fail
  go_ret
  exact ⟨rfl, (hw3.trans hbl15).trans hb16⟩
end Go.Proofs.Ytegmddgbdjlidaa

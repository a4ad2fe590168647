/-
  The walks of layer 22's references: Begin, Part, Wants, Taken, Took, Left.
-/
import Derived.Test.YtegmddgbdjlidaaRef22b
namespace Go.Proofs.Ytegmddgbdjlidaa
open Go.RowKit

theorem started_begin {x : Entry} {m : List Times} (h : beginN x m = 0) : beginE x m = startedE x m := by
  obtain ⟨_, _, hr⟩ := begin_zero h
  unfold beginE startedE
  rw [if_pos h, hr]
  show setE 0 _ = doneE _
  have key : ∀ y : Entry, y.known = true → setE 0 y = doneE y := by
    intro y hy
    unfold setE doneE
    rw [if_pos rfl, hy]
    cases someNot y.got <;> rfl
  apply key
  cases hq : (x.known && same x.snap m)
  · rfl
  · rw [Bool.and_eq_true] at hq
    exact hq.1

set_option maxRecDepth 100000 in
set_option maxHeartbeats 2000000 in
theorem refBegin22 (x : Entry) (m : List Times) (A B C : Option Addr) (c d k : Nat) (w : World) (hx : Held w x A c B d) (hok : x.ok) (hml : m.length ≤ maxLen) (hC : R cTimes 0 w C m) :
    Calls Try.prog 31 #[.agg #[.int .u32 x.id.t, .int .u8 x.id.r, .bool x.ready, .bool x.pin, .int .i64 x.used, .bool x.known, .slice A x.snap.length c, .slice B x.got.length d], .slice C m.length k] w (EntN (beginE x m) (beginN x m) w) := by
  have hone := fun W (hb : Bl w W) => refOne19 x A B c d W hok (Nat.le_trans hx.l1 hx.l2) (Nat.le_trans hx.l3 hx.l4) (hx.hS.bl hb)
  have hids := fun W (hb : Bl w W) => refIds08 C k m W hml (hC.bl hb)
  replace hids := hide hids
  cases hmay : entryMay x
  · have e2 := hide (show beginN x m = 8 by unfold beginN; rw [hmay]; rfl)
    have e1 := hide (show beginE x m = zeroE by unfold beginE; rw [e2.out]; rfl)
    rw [hmay] at hone
    replace hone := hide hone
    clear hmay
    go_enter Try.func31, Try.ntmps31
    go_wp2_with fail
    obtain ⟨W, hW⟩ : ∃ W, W = (w.alloc (Obj.cells #[Value.int IntKind.u32 x.id.t, Value.int IntKind.u8 x.id.r, Value.bool x.ready, Value.bool x.pin, Value.int IntKind.i64 x.used, Value.bool x.known, Value.slice A x.snap.length c, Value.slice B x.got.length d] 31)).alloc (Obj.cells #[Value.int IntKind.u32 0, Value.int IntKind.u8 0, Value.bool false, Value.bool false, Value.int IntKind.i64 0, Value.bool false, Value.slice none 0 0, Value.slice none 0 0] 31) := ⟨_, rfl⟩
    have hblW : Bl w W := by rw [hW]; exact ((Bl.refl _).alloc _).alloc _
    have at0 : EntAt W w.heap.size x A c B d := by rw [hW]; exact entmade_at x A c B d _
    have at1 : EntAt W (w.heap.size + 1) zeroE none 0 none 0 := by rw [hW]; exact entzero_at w _
    have hs0 := at0.lt
    have hs1 := at1.lt
    try rw [hkn] at hW
    try rw [hrn] at hW
    rw [← hW]
    clear hW
    refine (hone.out _ hblW).mono ?_
    rintro e w1 ⟨rfl, hb1⟩
    obtain ⟨x0, x1, x2, x3, x4, x5, x6, x7⟩ := (at0.bl hb1).cells
    obtain ⟨y0, y1, y2, y3, y4, y5, y6, y7⟩ := (at1.bl hb1).cells
    obtain ⟨f0, f1, f2, f3, f4, f5, f6, f7⟩ := (at1.bl hb1).frozens
    have hzs := (at1.bl hb1).lt
    go_wp2_with fail
    refine bodyPost_ret (v := .tuple #[.agg #[.int .u32 0, .int .u8 0, .bool false, .bool false, .int .i64 0, .bool false, .slice none 0 0, .slice none 0 0], .int .i64 8]) (by simp [results, Try.results31, go_sem, y0, y1, y2, y3, y4, y5, y6, y7]) rfl ?_
    rw [e1.out, e2.out]
    exact ⟨none, 0, none, 0, rfl, ⟨Nat.le_refl _, Nat.zero_le _, Nat.le_refl _, Nat.zero_le _, R.nil, R.nil⟩, set8_bl (hblW.trans hb1) (Y := w.heap.size + 1) (by omega) zeroE none 0 none 0⟩
  rw [hmay] at hone
  replace hone := hide hone
  by_cases he : clockIdsErr m = 0
  rotate_left
  · have e2 := hide (show beginN x m = clockIdsErr m by unfold beginN; rw [hmay, if_pos rfl, if_neg he])
    have e1 := hide (show beginE x m = zeroE by unfold beginE; rw [e2.out, if_neg he])
    have he' : (clockIdsErr m != 0) = true := by simp [he]
    clear hmay he
    go_enter Try.func31, Try.ntmps31
    go_wp2_with fail
    obtain ⟨W, hW⟩ : ∃ W, W = (w.alloc (Obj.cells #[Value.int IntKind.u32 x.id.t, Value.int IntKind.u8 x.id.r, Value.bool x.ready, Value.bool x.pin, Value.int IntKind.i64 x.used, Value.bool x.known, Value.slice A x.snap.length c, Value.slice B x.got.length d] 31)).alloc (Obj.cells #[Value.int IntKind.u32 0, Value.int IntKind.u8 0, Value.bool false, Value.bool false, Value.int IntKind.i64 0, Value.bool false, Value.slice none 0 0, Value.slice none 0 0] 31) := ⟨_, rfl⟩
    have hblW : Bl w W := by rw [hW]; exact ((Bl.refl _).alloc _).alloc _
    have at0 : EntAt W w.heap.size x A c B d := by rw [hW]; exact entmade_at x A c B d _
    have at1 : EntAt W (w.heap.size + 1) zeroE none 0 none 0 := by rw [hW]; exact entzero_at w _
    have hs0 := at0.lt
    have hs1 := at1.lt
    try rw [hkn] at hW
    try rw [hrn] at hW
    rw [← hW]
    clear hW
    refine (hone.out _ hblW).mono ?_
    rintro e w1 ⟨rfl, hb1⟩
    go_wp2_with fail
    refine (hids.out _ (hblW.trans hb1)).mono ?_
    rintro e w2 ⟨A2, c2, rfl, q1, q2, hr2, hb2⟩
    have hb12 := hb1.trans hb2
    obtain ⟨x0, x1, x2, x3, x4, x5, x6, x7⟩ := (at0.bl hb12).cells
    obtain ⟨y0, y1, y2, y3, y4, y5, y6, y7⟩ := (at1.bl hb12).cells
    obtain ⟨f0, f1, f2, f3, f4, f5, f6, f7⟩ := (at1.bl hb12).frozens
    have hzs := (at1.bl hb12).lt
    go_wp2_with fail
    refine bodyPost_ret (v := .tuple #[.agg #[.int .u32 0, .int .u8 0, .bool false, .bool false, .int .i64 0, .bool false, .slice none 0 0, .slice none 0 0], .int .i64 (clockIdsErr m)]) (by simp [results, Try.results31, go_sem, y0, y1, y2, y3, y4, y5, y6, y7]) rfl ?_
    rw [e1.out, e2.out]
    exact ⟨none, 0, none, 0, rfl, ⟨Nat.le_refl _, Nat.zero_le _, Nat.le_refl _, Nat.zero_le _, R.nil, R.nil⟩, set8_bl (hblW.trans hb12) (Y := w.heap.size + 1) (by omega) zeroE none 0 none 0⟩
  cases hr : x.ready
  rotate_left
  · have e2 := hide (show beginN x m = 6 by unfold beginN; rw [hmay, if_pos rfl, if_pos he, hr]; rfl)
    have e1 := hide (show beginE x m = zeroE by unfold beginE; rw [e2.out]; rfl)
    have he' := hide he
    have hrn := hr
    clear hmay he
    go_enter Try.func31, Try.ntmps31
    go_wp2_with fail
    obtain ⟨W, hW⟩ : ∃ W, W = (w.alloc (Obj.cells #[Value.int IntKind.u32 x.id.t, Value.int IntKind.u8 x.id.r, Value.bool x.ready, Value.bool x.pin, Value.int IntKind.i64 x.used, Value.bool x.known, Value.slice A x.snap.length c, Value.slice B x.got.length d] 31)).alloc (Obj.cells #[Value.int IntKind.u32 0, Value.int IntKind.u8 0, Value.bool false, Value.bool false, Value.int IntKind.i64 0, Value.bool false, Value.slice none 0 0, Value.slice none 0 0] 31) := ⟨_, rfl⟩
    have hblW : Bl w W := by rw [hW]; exact ((Bl.refl _).alloc _).alloc _
    have at0 : EntAt W w.heap.size x A c B d := by rw [hW]; exact entmade_at x A c B d _
    have at1 : EntAt W (w.heap.size + 1) zeroE none 0 none 0 := by rw [hW]; exact entzero_at w _
    have hs0 := at0.lt
    have hs1 := at1.lt
    try rw [hkn] at hW
    try rw [hrn] at hW
    rw [← hW]
    clear hW
    rw [hrn] at hone
    refine (hone.out _ hblW).mono ?_
    rintro e w1 ⟨rfl, hb1⟩
    go_wp2_with fail
    refine (hids.out _ (hblW.trans hb1)).mono ?_
    rintro e w2 ⟨A2, c2, rfl, q1, q2, hr2, hb2⟩
    rw [he'.out]
    have hb12 := hb1.trans hb2
    obtain ⟨x0, x1, x2, x3, x4, x5, x6, x7⟩ := (at0.bl hb12).cells
    obtain ⟨y0, y1, y2, y3, y4, y5, y6, y7⟩ := (at1.bl hb12).cells
    obtain ⟨f0, f1, f2, f3, f4, f5, f6, f7⟩ := (at1.bl hb12).frozens
    have hzs := (at1.bl hb12).lt
    go_wp2_with fail
    refine bodyPost_ret (v := .tuple #[.agg #[.int .u32 0, .int .u8 0, .bool false, .bool false, .int .i64 0, .bool false, .slice none 0 0, .slice none 0 0], .int .i64 6]) (by simp [results, Try.results31, go_sem, y0, y1, y2, y3, y4, y5, y6, y7]) rfl ?_
    rw [e1.out, e2.out]
    exact ⟨none, 0, none, 0, rfl, ⟨Nat.le_refl _, Nat.zero_le _, Nat.le_refl _, Nat.zero_le _, R.nil, R.nil⟩, set8_bl (hblW.trans hb12) (Y := w.heap.size + 1) (by omega) zeroE none 0 none 0⟩
  · have e2 := hide (show beginN x m = 0 by unfold beginN; rw [hmay, if_pos rfl, if_pos he, hr]; rfl)
    have e1 := hide (started_begin e2.out)
    obtain ⟨⟨hs1, hs2⟩, hs3⟩ := small_of_may hmay
    have hbeg := begun e2.out hok
    rw [e1.out] at hbeg
    have hsmy := hide (small_of_may hbeg.1)
    have hst := fun W (hb : Bl w W) => refStarted x m A B C c d k W (hx.bl hb) hs3 hs1 he (hC.bl hb)
    rw [hr] at hst hone
    replace hst := hide hst
    have he' := hide he
    clear hmay he hbeg hs1 hs2 hs3
    obtain ⟨y, hy⟩ : ∃ y, y = startedE x m := ⟨_, rfl⟩
    rw [← hy] at e1 hst hsmy
    clear hy
    go_enter Try.func31, Try.ntmps31
    go_wp2_with fail
    have hrn := hr
    obtain ⟨W, hW⟩ : ∃ W, W = (w.alloc (Obj.cells #[Value.int IntKind.u32 x.id.t, Value.int IntKind.u8 x.id.r, Value.bool x.ready, Value.bool x.pin, Value.int IntKind.i64 x.used, Value.bool x.known, Value.slice A x.snap.length c, Value.slice B x.got.length d] 31)).alloc (Obj.cells #[Value.int IntKind.u32 0, Value.int IntKind.u8 0, Value.bool false, Value.bool false, Value.int IntKind.i64 0, Value.bool false, Value.slice none 0 0, Value.slice none 0 0] 31) := ⟨_, rfl⟩
    have hblW : Bl w W := by rw [hW]; exact ((Bl.refl _).alloc _).alloc _
    have at0 : EntAt W w.heap.size x A c B d := by rw [hW]; exact entmade_at x A c B d _
    have at1 : EntAt W (w.heap.size + 1) zeroE none 0 none 0 := by rw [hW]; exact entzero_at w _
    have hs0 := at0.lt
    have hs1 := at1.lt
    try rw [hkn] at hW
    try rw [hrn] at hW
    rw [← hW]
    clear hW
    refine (hone.out _ hblW).mono ?_
    rintro e w1 ⟨rfl, hb1⟩
    go_wp2_with fail
    refine (hids.out _ (hblW.trans hb1)).mono ?_
    rintro e w2 ⟨A2, c2, rfl, q1, q2, hr2, hb2⟩
    rw [he'.out]
    have hb12 := hb1.trans hb2
    obtain ⟨x0, x1, x2, x3, x4, x5, x6, x7⟩ := (at0.bl hb12).cells
    go_wp2_with fail
    refine (hst.out _ (hblW.trans hb12)).mono ?_
    rintro e w3 ⟨A3, c3, B3, d3, rfl, hx3, hb3⟩
    have hb13 := hb12.trans hb3
    clear x0 x1 x2 x3 x4 x5 x6 x7
    go_wp2_with fail
    refine (refOwn19 y A3 B3 c3 d3 _ hsmy.out hx3.hS hx3.hG).mono ?_
    rintro e w4 ⟨A4, c4, B4, d4, rfl, l1, l2, l3, l4, hS, hG, hb4⟩
    have hb14 := hb13.trans hb4
    obtain ⟨x0, x1, x2, x3, x4, x5, x6, x7⟩ := (at0.bl hb14).cells
    obtain ⟨y0, y1, y2, y3, y4, y5, y6, y7⟩ := (at1.bl hb14).cells
    obtain ⟨f0, f1, f2, f3, f4, f5, f6, f7⟩ := (at1.bl hb14).frozens
    have hzs := (at1.bl hb14).lt
    have hs13 := hb13.size
    go_wp2_with fail
    refine bodyPost_ret (v := .tuple #[.agg #[.int .u32 y.id.t, .int .u8 y.id.r, .bool y.ready, .bool y.pin, .int .i64 y.used, .bool y.known, .slice A4 y.snap.length c4, .slice B4 y.got.length d4], .int .i64 0]) (by simp [results, Try.results31, go_sem, y0, y1, y2, y3, y4, y5, y6, y7]) rfl ?_
    rw [e1.out, e2.out]
    exact ⟨A4, c4, B4, d4, rfl, ⟨l1, l2, l3, l4, (set8_R hS (Y := w.heap.size + 1) (by omega) y A4 c4 B4 d4).zero, (set8_R hG (Y := w.heap.size + 1) (by omega) y A4 c4 B4 d4).zero⟩, set8_bl (hblW.trans hb14) (Y := w.heap.size + 1) (by omega) y A4 c4 B4 d4⟩
end Go.Proofs.Ytegmddgbdjlidaa

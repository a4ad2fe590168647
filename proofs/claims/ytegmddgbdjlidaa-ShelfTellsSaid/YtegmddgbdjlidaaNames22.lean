/-
  The walk of the law FetchNames.
-/
import Derived.Test.YtegmddgbdjlidaaAlive
namespace Go.Proofs.Ytegmddgbdjlidaa
open Go.RowKit

def first8 : List Id := [⟨1, 0⟩, ⟨2, 0⟩, ⟨3, 0⟩, ⟨4, 0⟩, ⟨5, 0⟩, ⟨6, 0⟩, ⟨7, 0⟩, ⟨8, 0⟩]
def ex3 : Entry := ⟨⟨0, 0⟩, true, false, 0, false, [], []⟩
def exR : Entry := ⟨⟨0, 0⟩, true, false, 0, false, [], []⟩
def exU : Entry := ⟨⟨0, 0⟩, false, false, -1, false, [], []⟩
theorem plain_cut : cutIds nineL 0 = first8 ∧ cutErr nineL 0 = 0 := by decide +kernel
theorem plain_took0 : tookN ex2 0 first8 = 0 ∧ tookE ex2 0 first8 = ex3 := by decide +kernel
theorem plain_took2 : tookN ex2 1 [⟨9, 0⟩] = 6 ∧ tookE ex2 1 [⟨9, 0⟩] = zeroE := by decide +kernel
theorem plain_took3 : tookN ex1 1 [⟨8, 0⟩] = 6 ∧ tookE ex1 1 [⟨8, 0⟩] = zeroE := by decide +kernel
theorem plain_beginNil : beginN zeroE [] = 0 ∧ beginE zeroE [] = ex3 := by decide +kernel
theorem plain_beginR : beginN exR nineL = 6 ∧ beginE exR nineL = zeroE := by decide +kernel
theorem plain_leftU : entryMay exU = false := by decide +kernel

theorem cut0 (A : Option Addr) (c : Nat) (w : World) (hA : R cTimes 0 w A nineL) : Calls Try.prog 26 #[.slice A 1 c, .int .i64 0] w fun e w' => ∃ A' c', e = .returned (.tuple #[.slice A' 8 c', .int .i64 0]) ∧ R cId 0 w' A' first8 ∧ Bl w w' := by
  have hl : nineL.length = 1 := by with_unfolding_all rfl
  have := snapCut A c nineL 0 w ⟨by decide, by decide⟩ (by rw [hl]; decide) hA
  rw [plain_cut.1, plain_cut.2, hl] at this
  exact this.mono fun _ _ ⟨A', c', he, _, _, hr, hb⟩ => ⟨A', c', he, hr.zero, hb⟩
theorem took0 {A B D : Option Addr} {c d k : Nat} {w : World} (h : Held w ex2 A c B d) (hD : R cId 0 w D first8) :
    Calls Try.prog 25 #[.agg #[.int .u32 ex2.id.t, .int .u8 ex2.id.r, .bool ex2.ready, .bool ex2.pin, .int .i64 ex2.used, .bool ex2.known, .slice A ex2.snap.length c, .slice B ex2.got.length d], .int .i64 0, .slice D 8 k] w (EntN ex3 0 w) :=
  tookC ex2 0 first8 plain_took0 okex2 ⟨by decide, by decide⟩ (show 8 ≤ maxLen by decide) h hD
theorem beginNil (w : World) : Calls Try.prog 23 #[.agg #[.int .u32 0, .int .u8 0, .bool false, .bool false, .int .i64 0, .bool false, .slice none 0 0, .slice none 0 0], .slice none 0 0] w (EntN ex3 0 w) := by
  have := fetchBegin zeroE none none none 0 0 0 [] w (ok0 false) (Nat.le_refl _) (Nat.zero_le _) (Nat.le_refl _) (Nat.zero_le _) (Nat.zero_le _) R.nil R.nil R.nil
  rw [plain_beginNil.1, plain_beginNil.2] at this
  exact this.mono fun _ _ h => h.n
theorem beginR (A : Option Addr) (c : Nat) (w : World) (hA : R cTimes 0 w A nineL) : Calls Try.prog 23 #[.agg #[.int .u32 0, .int .u8 0, .bool true, .bool false, .int .i64 0, .bool false, .slice none 0 0, .slice none 0 0], .slice A 1 c] w (EntN zeroE 6 w) := by
  have hl : nineL.length = 1 := by with_unfolding_all rfl
  have := fetchBegin exR none none A 0 0 c nineL w (ok0 true) (Nat.le_refl _) (Nat.zero_le _) (Nat.le_refl _) (Nat.zero_le _) (by rw [hl]; decide) R.nil R.nil hA
  rw [plain_beginR.1, plain_beginR.2, hl] at this
  exact this.mono fun _ _ h => h.n
theorem leftU (w : World) : Calls Try.prog 27 #[.agg #[.int .u32 0, .int .u8 0, .bool false, .bool false, .int .i64 (-1), .bool false, .slice none 0 0, .slice none 0 0]] w fun e w' => ∃ A c, e = .returned (.tuple #[.slice A 0 c, .int .i64 8]) ∧ Bl w w' := by
  have := fetchLeft exU none none 0 0 w ⟨⟨by decide, by decide, by decide, by decide⟩, by decide, by decide⟩ (Nat.le_refl _) (Nat.zero_le _) (Nat.le_refl _) (Nat.zero_le _) R.nil R.nil
  have hl : leftOf exU = [] := by unfold leftOf; rw [plain_leftU]; rfl
  rw [hl, plain_leftU, okOr_false] at this
  exact this.mono fun _ _ ⟨A, c, he, _, _, _, hb⟩ => ⟨A, c, he, hb⟩
theorem ex3_ready : ex3.ready = true := rfl
theorem ex3_known : ex3.known = false := rfl
attribute [irreducible] ex3 first8

set_option maxRecDepth 100000 in
set_option maxHeartbeats 2000000 in
theorem fetchNames (w : World) : Calls Try.prog 4 #[] w fun e w' => e = .returned (.bool true) ∧ Bl w w' := by
  have hi1 : i64ok 1 := ⟨by decide, by decide⟩
  have hid9 : Id.ok ⟨9, 0⟩ := ⟨by decide, by decide, by decide, by decide⟩
  have hid8 : Id.ok ⟨8, 0⟩ := ⟨by decide, by decide, by decide, by decide⟩
  go_enter Try.func4, Try.ntmps4
  go_wp2_with fail
  refine (nine1 _).mono ?_
  rintro e w1 ⟨A1, c1, rfl, hr1, hb1⟩
  go_wp2_with fail
  refine (begin1 A1 c1 _ hr1).mono ?_
  rintro e w2 ⟨A2, c2, B2, d2, rfl, hx2, hb2⟩
  have hbw := hb1.trans hb2
  clear hb1 hb2 hr1
  go_wp2_with fail
  have at2 : ∀ V, Bl (w2.alloc (.cells #[Value.int IntKind.u32 ex1.id.t, Value.int IntKind.u8 ex1.id.r, Value.bool ex1.ready, Value.bool ex1.pin, Value.int IntKind.i64 ex1.used, Value.bool ex1.known, Value.slice A2 ex1.snap.length c2, Value.slice B2 ex1.got.length d2] 31)) V → EntAt V w2.heap.size ex1 A2 c2 B2 d2 := fun V hb => (EntAt.new w2 ex1 A2 c2 B2 d2 _).bl hb
  have hbl2 : Bl w (w2.alloc (.cells #[Value.int IntKind.u32 ex1.id.t, Value.int IntKind.u8 ex1.id.r, Value.bool ex1.ready, Value.bool ex1.pin, Value.int IntKind.i64 ex1.used, Value.bool ex1.known, Value.slice A2 ex1.snap.length c2, Value.slice B2 ex1.got.length d2] 31)) := hbw.alloc _
  have hV2 : Bl w2 (w2.alloc (.cells #[Value.int IntKind.u32 ex1.id.t, Value.int IntKind.u8 ex1.id.r, Value.bool ex1.ready, Value.bool ex1.pin, Value.int IntKind.i64 ex1.used, Value.bool ex1.known, Value.slice A2 ex1.snap.length c2, Value.slice B2 ex1.got.length d2] 31)) := (Bl.refl _).alloc _
  replace hx2 : Held (w2.alloc (.cells #[Value.int IntKind.u32 ex1.id.t, Value.int IntKind.u8 ex1.id.r, Value.bool ex1.ready, Value.bool ex1.pin, Value.int IntKind.i64 ex1.used, Value.bool ex1.known, Value.slice A2 ex1.snap.length c2, Value.slice B2 ex1.got.length d2] 31)) ex1 A2 c2 B2 d2 := hx2.bl hV2
  have hsz2 : (w2.alloc (.cells #[Value.int IntKind.u32 ex1.id.t, Value.int IntKind.u8 ex1.id.r, Value.bool ex1.ready, Value.bool ex1.pin, Value.int IntKind.i64 ex1.used, Value.bool ex1.known, Value.slice A2 ex1.snap.length c2, Value.slice B2 ex1.got.length d2] 31)).heap.size = w2.heap.size + 1 := World.size_alloc _ _
  replace at2 := hide at2
  generalize w2.alloc (.cells #[Value.int IntKind.u32 ex1.id.t, Value.int IntKind.u8 ex1.id.r, Value.bool ex1.ready, Value.bool ex1.pin, Value.int IntKind.i64 ex1.used, Value.bool ex1.known, Value.slice A2 ex1.snap.length c2, Value.slice B2 ex1.got.length d2] 31) = V2 at *
  try rw [← hsz2]
  clear hsz2
  refine (tookBox ex1 1 9 0 plain_took okex1 hi1 hid9 hx2).mono ?_
  rintro e w3 ⟨A3, c3, B3, d3, rfl, hx3, hb3⟩
  go_wp2_with fail
  have at3 : ∀ V, Bl (w3.alloc (.cells #[Value.int IntKind.u32 ex2.id.t, Value.int IntKind.u8 ex2.id.r, Value.bool ex2.ready, Value.bool ex2.pin, Value.int IntKind.i64 ex2.used, Value.bool ex2.known, Value.slice A3 ex2.snap.length c3, Value.slice B3 ex2.got.length d3] 31)) V → EntAt V w3.heap.size ex2 A3 c3 B3 d3 := fun V hb => (EntAt.new w3 ex2 A3 c3 B3 d3 _).bl hb
  have hbl3 : Bl w (w3.alloc (.cells #[Value.int IntKind.u32 ex2.id.t, Value.int IntKind.u8 ex2.id.r, Value.bool ex2.ready, Value.bool ex2.pin, Value.int IntKind.i64 ex2.used, Value.bool ex2.known, Value.slice A3 ex2.snap.length c3, Value.slice B3 ex2.got.length d3] 31)) := (hbl2.trans hb3).alloc _
  have hV3 : Bl w3 (w3.alloc (.cells #[Value.int IntKind.u32 ex2.id.t, Value.int IntKind.u8 ex2.id.r, Value.bool ex2.ready, Value.bool ex2.pin, Value.int IntKind.i64 ex2.used, Value.bool ex2.known, Value.slice A3 ex2.snap.length c3, Value.slice B3 ex2.got.length d3] 31)) := (Bl.refl _).alloc _
  replace hx3 : Held (w3.alloc (.cells #[Value.int IntKind.u32 ex2.id.t, Value.int IntKind.u8 ex2.id.r, Value.bool ex2.ready, Value.bool ex2.pin, Value.int IntKind.i64 ex2.used, Value.bool ex2.known, Value.slice A3 ex2.snap.length c3, Value.slice B3 ex2.got.length d3] 31)) ex2 A3 c3 B3 d3 := hx3.bl hV3
  have hsz3 : (w3.alloc (.cells #[Value.int IntKind.u32 ex2.id.t, Value.int IntKind.u8 ex2.id.r, Value.bool ex2.ready, Value.bool ex2.pin, Value.int IntKind.i64 ex2.used, Value.bool ex2.known, Value.slice A3 ex2.snap.length c3, Value.slice B3 ex2.got.length d3] 31)).heap.size = w3.heap.size + 1 := World.size_alloc _ _
  replace at3 := hide at3
  generalize w3.alloc (.cells #[Value.int IntKind.u32 ex2.id.t, Value.int IntKind.u8 ex2.id.r, Value.bool ex2.ready, Value.bool ex2.pin, Value.int IntKind.i64 ex2.used, Value.bool ex2.known, Value.slice A3 ex2.snap.length c3, Value.slice B3 ex2.got.length d3] 31) = V3 at *
  try rw [← hsz3]
  clear hsz3
  refine (nine1 _).mono ?_
  rintro e w4 ⟨A4, c4, rfl, hr4, hb4⟩
  go_wp2_with fail
  refine (cut0 A4 c4 _ hr4).mono ?_
  rintro e w5 ⟨A5, c5, rfl, hr5, hb5⟩
  have hb45 := hb4.trans hb5
  obtain ⟨y0, y1, y2, y3, y4, y5, y6, y7⟩ := (at3.out _ hb45).cells
  go_wp2_with fail
  refine (took0 (hx3.bl hb45) hr5).mono ?_
  rintro e w6 ⟨A6, c6, B6, d6, rfl, hx6, hb6⟩
  clear y0 y1 y2 y3 y4 y5 y6 y7
  have hb36 := hb45.trans hb6
  obtain ⟨y0, y1, y2, y3, y4, y5, y6, y7⟩ := (at3.out _ hb36).cells
  have hz := (at3.out _ hb36).lt
  go_wp2_with fail
  have at6 : ∀ V, Bl (w6.alloc (.cells #[Value.int IntKind.u32 ex3.id.t, Value.int IntKind.u8 ex3.id.r, Value.bool ex3.ready, Value.bool ex3.pin, Value.int IntKind.i64 ex3.used, Value.bool ex3.known, Value.slice A6 ex3.snap.length c6, Value.slice B6 ex3.got.length d6] 31)) V → EntAt V w6.heap.size ex3 A6 c6 B6 d6 := fun V hb => (EntAt.new w6 ex3 A6 c6 B6 d6 _).bl hb
  have hbl6 : Bl w (w6.alloc (.cells #[Value.int IntKind.u32 ex3.id.t, Value.int IntKind.u8 ex3.id.r, Value.bool ex3.ready, Value.bool ex3.pin, Value.int IntKind.i64 ex3.used, Value.bool ex3.known, Value.slice A6 ex3.snap.length c6, Value.slice B6 ex3.got.length d6] 31)) := (hbl3.trans hb36).alloc _
  have hV6 : Bl w6 (w6.alloc (.cells #[Value.int IntKind.u32 ex3.id.t, Value.int IntKind.u8 ex3.id.r, Value.bool ex3.ready, Value.bool ex3.pin, Value.int IntKind.i64 ex3.used, Value.bool ex3.known, Value.slice A6 ex3.snap.length c6, Value.slice B6 ex3.got.length d6] 31)) := (Bl.refl _).alloc _
  replace hx6 : Held (w6.alloc (.cells #[Value.int IntKind.u32 ex3.id.t, Value.int IntKind.u8 ex3.id.r, Value.bool ex3.ready, Value.bool ex3.pin, Value.int IntKind.i64 ex3.used, Value.bool ex3.known, Value.slice A6 ex3.snap.length c6, Value.slice B6 ex3.got.length d6] 31)) ex3 A6 c6 B6 d6 := hx6.bl hV6
  have hsz6 : (w6.alloc (.cells #[Value.int IntKind.u32 ex3.id.t, Value.int IntKind.u8 ex3.id.r, Value.bool ex3.ready, Value.bool ex3.pin, Value.int IntKind.i64 ex3.used, Value.bool ex3.known, Value.slice A6 ex3.snap.length c6, Value.slice B6 ex3.got.length d6] 31)).heap.size = w6.heap.size + 1 := World.size_alloc _ _
  replace at6 := hide at6
  generalize w6.alloc (.cells #[Value.int IntKind.u32 ex3.id.t, Value.int IntKind.u8 ex3.id.r, Value.bool ex3.ready, Value.bool ex3.pin, Value.int IntKind.i64 ex3.used, Value.bool ex3.known, Value.slice A6 ex3.snap.length c6, Value.slice B6 ex3.got.length d6] 31) = V6 at *
  try rw [← hsz6]
  clear hsz6
  have hb3V : Bl V3 V6 := hb36.trans hV6
  have hx3V := hx3.bl hb3V
  clear y0 y1 y2 y3 y4 y5 y6 y7 hz hx3
  refine (tookBox ex2 1 9 0 plain_took2 okex2 hi1 hid9 hx3V).mono ?_
  rintro e w7 ⟨A7, c7, B7, d7, rfl, hx7, hb7⟩
  have hb27 : Bl V2 w7 := ((hb3.trans hV3).trans hb3V).trans hb7
  obtain ⟨y0, y1, y2, y3, y4, y5, y6, y7⟩ := (at2.out _ hb27).cells
  have hz := (at2.out _ hb27).lt
  go_wp2_with fail
  have at7 : ∀ V, Bl (w7.alloc (.cells #[Value.int IntKind.u32 zeroE.id.t, Value.int IntKind.u8 zeroE.id.r, Value.bool zeroE.ready, Value.bool zeroE.pin, Value.int IntKind.i64 zeroE.used, Value.bool zeroE.known, Value.slice A7 zeroE.snap.length c7, Value.slice B7 zeroE.got.length d7] 31)) V → EntAt V w7.heap.size zeroE A7 c7 B7 d7 := fun V hb => (EntAt.new w7 zeroE A7 c7 B7 d7 _).bl hb
  have hbl7 : Bl w (w7.alloc (.cells #[Value.int IntKind.u32 zeroE.id.t, Value.int IntKind.u8 zeroE.id.r, Value.bool zeroE.ready, Value.bool zeroE.pin, Value.int IntKind.i64 zeroE.used, Value.bool zeroE.known, Value.slice A7 zeroE.snap.length c7, Value.slice B7 zeroE.got.length d7] 31)) := (hbl6.trans hb7).alloc _
  have hV7 : Bl w7 (w7.alloc (.cells #[Value.int IntKind.u32 zeroE.id.t, Value.int IntKind.u8 zeroE.id.r, Value.bool zeroE.ready, Value.bool zeroE.pin, Value.int IntKind.i64 zeroE.used, Value.bool zeroE.known, Value.slice A7 zeroE.snap.length c7, Value.slice B7 zeroE.got.length d7] 31)) := (Bl.refl _).alloc _
  replace hx7 : Held (w7.alloc (.cells #[Value.int IntKind.u32 zeroE.id.t, Value.int IntKind.u8 zeroE.id.r, Value.bool zeroE.ready, Value.bool zeroE.pin, Value.int IntKind.i64 zeroE.used, Value.bool zeroE.known, Value.slice A7 zeroE.snap.length c7, Value.slice B7 zeroE.got.length d7] 31)) zeroE A7 c7 B7 d7 := hx7.bl hV7
  have hsz7 : (w7.alloc (.cells #[Value.int IntKind.u32 zeroE.id.t, Value.int IntKind.u8 zeroE.id.r, Value.bool zeroE.ready, Value.bool zeroE.pin, Value.int IntKind.i64 zeroE.used, Value.bool zeroE.known, Value.slice A7 zeroE.snap.length c7, Value.slice B7 zeroE.got.length d7] 31)).heap.size = w7.heap.size + 1 := World.size_alloc _ _
  replace at7 := hide at7
  generalize w7.alloc (.cells #[Value.int IntKind.u32 zeroE.id.t, Value.int IntKind.u8 zeroE.id.r, Value.bool zeroE.ready, Value.bool zeroE.pin, Value.int IntKind.i64 zeroE.used, Value.bool zeroE.known, Value.slice A7 zeroE.snap.length c7, Value.slice B7 zeroE.got.length d7] 31) = V7 at *
  try rw [← hsz7]
  clear hsz7
  have hx2V := hx2.bl (hb27.trans hV7)
  clear y0 y1 y2 y3 y4 y5 y6 y7 hz hx2
  refine (tookBox ex1 1 8 0 plain_took3 okex1 hi1 hid8 hx2V).mono ?_
  rintro e w8 ⟨A8, c8, B8, d8, rfl, hx8, hb8⟩
  go_wp2_with fail
  have at8 : ∀ V, Bl (w8.alloc (.cells #[Value.int IntKind.u32 zeroE.id.t, Value.int IntKind.u8 zeroE.id.r, Value.bool zeroE.ready, Value.bool zeroE.pin, Value.int IntKind.i64 zeroE.used, Value.bool zeroE.known, Value.slice A8 zeroE.snap.length c8, Value.slice B8 zeroE.got.length d8] 31)) V → EntAt V w8.heap.size zeroE A8 c8 B8 d8 := fun V hb => (EntAt.new w8 zeroE A8 c8 B8 d8 _).bl hb
  have hbl8 : Bl w (w8.alloc (.cells #[Value.int IntKind.u32 zeroE.id.t, Value.int IntKind.u8 zeroE.id.r, Value.bool zeroE.ready, Value.bool zeroE.pin, Value.int IntKind.i64 zeroE.used, Value.bool zeroE.known, Value.slice A8 zeroE.snap.length c8, Value.slice B8 zeroE.got.length d8] 31)) := (hbl7.trans hb8).alloc _
  have hV8 : Bl w8 (w8.alloc (.cells #[Value.int IntKind.u32 zeroE.id.t, Value.int IntKind.u8 zeroE.id.r, Value.bool zeroE.ready, Value.bool zeroE.pin, Value.int IntKind.i64 zeroE.used, Value.bool zeroE.known, Value.slice A8 zeroE.snap.length c8, Value.slice B8 zeroE.got.length d8] 31)) := (Bl.refl _).alloc _
  replace hx8 : Held (w8.alloc (.cells #[Value.int IntKind.u32 zeroE.id.t, Value.int IntKind.u8 zeroE.id.r, Value.bool zeroE.ready, Value.bool zeroE.pin, Value.int IntKind.i64 zeroE.used, Value.bool zeroE.known, Value.slice A8 zeroE.snap.length c8, Value.slice B8 zeroE.got.length d8] 31)) zeroE A8 c8 B8 d8 := hx8.bl hV8
  have hsz8 : (w8.alloc (.cells #[Value.int IntKind.u32 zeroE.id.t, Value.int IntKind.u8 zeroE.id.r, Value.bool zeroE.ready, Value.bool zeroE.pin, Value.int IntKind.i64 zeroE.used, Value.bool zeroE.known, Value.slice A8 zeroE.snap.length c8, Value.slice B8 zeroE.got.length d8] 31)).heap.size = w8.heap.size + 1 := World.size_alloc _ _
  replace at8 := hide at8
  generalize w8.alloc (.cells #[Value.int IntKind.u32 zeroE.id.t, Value.int IntKind.u8 zeroE.id.r, Value.bool zeroE.ready, Value.bool zeroE.pin, Value.int IntKind.i64 zeroE.used, Value.bool zeroE.known, Value.slice A8 zeroE.snap.length c8, Value.slice B8 zeroE.got.length d8] 31) = V8 at *
  try rw [← hsz8]
  clear hsz8
  refine (beginNil _).mono ?_
  rintro e w9 ⟨A9, c9, B9, d9, rfl, hx9, hb9⟩
  go_wp2_with fail
  have at9 : ∀ V, Bl (w9.alloc (.cells #[Value.int IntKind.u32 ex3.id.t, Value.int IntKind.u8 ex3.id.r, Value.bool ex3.ready, Value.bool ex3.pin, Value.int IntKind.i64 ex3.used, Value.bool ex3.known, Value.slice A9 ex3.snap.length c9, Value.slice B9 ex3.got.length d9] 31)) V → EntAt V w9.heap.size ex3 A9 c9 B9 d9 := fun V hb => (EntAt.new w9 ex3 A9 c9 B9 d9 _).bl hb
  have hbl9 : Bl w (w9.alloc (.cells #[Value.int IntKind.u32 ex3.id.t, Value.int IntKind.u8 ex3.id.r, Value.bool ex3.ready, Value.bool ex3.pin, Value.int IntKind.i64 ex3.used, Value.bool ex3.known, Value.slice A9 ex3.snap.length c9, Value.slice B9 ex3.got.length d9] 31)) := (hbl8.trans hb9).alloc _
  have hV9 : Bl w9 (w9.alloc (.cells #[Value.int IntKind.u32 ex3.id.t, Value.int IntKind.u8 ex3.id.r, Value.bool ex3.ready, Value.bool ex3.pin, Value.int IntKind.i64 ex3.used, Value.bool ex3.known, Value.slice A9 ex3.snap.length c9, Value.slice B9 ex3.got.length d9] 31)) := (Bl.refl _).alloc _
  replace hx9 : Held (w9.alloc (.cells #[Value.int IntKind.u32 ex3.id.t, Value.int IntKind.u8 ex3.id.r, Value.bool ex3.ready, Value.bool ex3.pin, Value.int IntKind.i64 ex3.used, Value.bool ex3.known, Value.slice A9 ex3.snap.length c9, Value.slice B9 ex3.got.length d9] 31)) ex3 A9 c9 B9 d9 := hx9.bl hV9
  have hsz9 : (w9.alloc (.cells #[Value.int IntKind.u32 ex3.id.t, Value.int IntKind.u8 ex3.id.r, Value.bool ex3.ready, Value.bool ex3.pin, Value.int IntKind.i64 ex3.used, Value.bool ex3.known, Value.slice A9 ex3.snap.length c9, Value.slice B9 ex3.got.length d9] 31)).heap.size = w9.heap.size + 1 := World.size_alloc _ _
  replace at9 := hide at9
  generalize w9.alloc (.cells #[Value.int IntKind.u32 ex3.id.t, Value.int IntKind.u8 ex3.id.r, Value.bool ex3.ready, Value.bool ex3.pin, Value.int IntKind.i64 ex3.used, Value.bool ex3.known, Value.slice A9 ex3.snap.length c9, Value.slice B9 ex3.got.length d9] 31) = V9 at *
  try rw [← hsz9]
  clear hsz9
  refine (nine1 _).mono ?_
  rintro e w10 ⟨A10, c10, rfl, hr10, hb10⟩
  go_wp2_with fail
  refine (beginR A10 c10 _ hr10).mono ?_
  rintro e w11 ⟨A11, c11, B11, d11, rfl, hx11, hb11⟩
  go_wp2_with fail
  have at11 : ∀ V, Bl (w11.alloc (.cells #[Value.int IntKind.u32 zeroE.id.t, Value.int IntKind.u8 zeroE.id.r, Value.bool zeroE.ready, Value.bool zeroE.pin, Value.int IntKind.i64 zeroE.used, Value.bool zeroE.known, Value.slice A11 zeroE.snap.length c11, Value.slice B11 zeroE.got.length d11] 31)) V → EntAt V w11.heap.size zeroE A11 c11 B11 d11 := fun V hb => (EntAt.new w11 zeroE A11 c11 B11 d11 _).bl hb
  have hbl11 : Bl w (w11.alloc (.cells #[Value.int IntKind.u32 zeroE.id.t, Value.int IntKind.u8 zeroE.id.r, Value.bool zeroE.ready, Value.bool zeroE.pin, Value.int IntKind.i64 zeroE.used, Value.bool zeroE.known, Value.slice A11 zeroE.snap.length c11, Value.slice B11 zeroE.got.length d11] 31)) := ((hbl9.trans hb10).trans hb11).alloc _
  have hV11 : Bl w11 (w11.alloc (.cells #[Value.int IntKind.u32 zeroE.id.t, Value.int IntKind.u8 zeroE.id.r, Value.bool zeroE.ready, Value.bool zeroE.pin, Value.int IntKind.i64 zeroE.used, Value.bool zeroE.known, Value.slice A11 zeroE.snap.length c11, Value.slice B11 zeroE.got.length d11] 31)) := (Bl.refl _).alloc _
  replace hx11 : Held (w11.alloc (.cells #[Value.int IntKind.u32 zeroE.id.t, Value.int IntKind.u8 zeroE.id.r, Value.bool zeroE.ready, Value.bool zeroE.pin, Value.int IntKind.i64 zeroE.used, Value.bool zeroE.known, Value.slice A11 zeroE.snap.length c11, Value.slice B11 zeroE.got.length d11] 31)) zeroE A11 c11 B11 d11 := hx11.bl hV11
  have hsz11 : (w11.alloc (.cells #[Value.int IntKind.u32 zeroE.id.t, Value.int IntKind.u8 zeroE.id.r, Value.bool zeroE.ready, Value.bool zeroE.pin, Value.int IntKind.i64 zeroE.used, Value.bool zeroE.known, Value.slice A11 zeroE.snap.length c11, Value.slice B11 zeroE.got.length d11] 31)).heap.size = w11.heap.size + 1 := World.size_alloc _ _
  replace at11 := hide at11
  generalize w11.alloc (.cells #[Value.int IntKind.u32 zeroE.id.t, Value.int IntKind.u8 zeroE.id.r, Value.bool zeroE.ready, Value.bool zeroE.pin, Value.int IntKind.i64 zeroE.used, Value.bool zeroE.known, Value.slice A11 zeroE.snap.length c11, Value.slice B11 zeroE.got.length d11] 31) = V11 at *
  try rw [← hsz11]
  clear hsz11
  refine (leftU _).mono ?_
  rintro e w12 ⟨A12, c12, rfl, hb12⟩
  go_wp2_with fail
  refine (aliveC _).mono ?_
  rintro e w13 ⟨rfl, hb13⟩
  have hb9z : Bl V9 w13 := ((hb10.trans hb11).trans hV11).trans (hb12.trans hb13)
  have hb6z : Bl V6 w13 := ((hb7.trans hV7).trans (hb8.trans hV8)).trans ((hb9.trans hV9).trans hb9z)
  have y2 := (at6.out _ hb6z).cells.2.2.1
  have y5 := (at6.out _ hb6z).cells.2.2.2.2.2.1
  have z2 := (at9.out _ hb9z).cells.2.2.1
  rw [ex3_ready] at y2 z2
  rw [ex3_known] at y5
  go_wp2_with fail
  go_ret
  exact ⟨rfl, hbl11.trans (hb12.trans hb13)⟩
end Go.Proofs.Ytegmddgbdjlidaa

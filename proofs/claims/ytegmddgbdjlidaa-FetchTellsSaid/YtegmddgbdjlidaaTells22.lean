/-
  The walk of the law FetchTells.
-/
import Derived.Test.YtegmddgbdjlidaaRef22e
import Derived.StillTailTactics
namespace Go.Proofs.Ytegmddgbdjlidaa
open Go.RowKit

theorem beginF (x : Entry) (m : List Times) {A B C : Option Addr} {c d k : Nat} {w : World} (hx : x.ok) (hm : m.length ≤ maxLen) (h : Held w x A c B d) (hC : R cTimes 0 w C m) :
    Calls Try.prog 23 #[.agg #[.int .u32 x.id.t, .int .u8 x.id.r, .bool x.ready, .bool x.pin, .int .i64 x.used, .bool x.known, .slice A x.snap.length c, .slice B x.got.length d], .slice C m.length k] w (Ent2 (beginE x m) (beginN x m) w) :=
  fetchBegin x A B C c d k m w hx h.l1 h.l2 h.l3 h.l4 hm h.hS h.hG hC
theorem tookF (x : Entry) (n : Int) (ids : List Id) {A B D : Option Addr} {c d k : Nat} {w : World} (hx : x.ok) (hn : i64ok n) (hm : ids.length ≤ maxLen) (h : Held w x A c B d) (hD : R cId 0 w D ids) :
    Calls Try.prog 25 #[.agg #[.int .u32 x.id.t, .int .u8 x.id.r, .bool x.ready, .bool x.pin, .int .i64 x.used, .bool x.known, .slice A x.snap.length c, .slice B x.got.length d], .int .i64 n, .slice D ids.length k] w (Ent2 (tookE x n ids) (tookN x n ids) w) :=
  fetchTook x n ids A B D c d k w hx hn h.l1 h.l2 h.l3 h.l4 hm h.hS h.hG hD
theorem leftF (x : Entry) {A B : Option Addr} {c d : Nat} {w : World} (hx : x.ok) (h : Held w x A c B d) :
    Calls Try.prog 27 #[.agg #[.int .u32 x.id.t, .int .u8 x.id.r, .bool x.ready, .bool x.pin, .int .i64 x.used, .bool x.known, .slice A x.snap.length c, .slice B x.got.length d]] w (New2 cInt (leftOf x) (okOr 8 (entryMay x)) w) :=
  fetchLeft x A B c d w hx h.l1 h.l2 h.l3 h.l4 h.hS h.hG
theorem leftOf_length (x : Entry) : (leftOf x).length ≤ 1048576 := by
  unfold leftOf
  cases h : entryMay x
  · simp
  · exact Nat.le_trans (leftFrom_length _ _) (small_of_may h).2

set_option maxRecDepth 100000 in
set_option maxHeartbeats 4000000 in
theorem fetchTells (x : Entry) (m : List Times) (n : Int) (ids : List Id) (A B C D : Option Addr) (c d k l : Nat) (w : World) (hx : x.ok) (hH : Held w x A c B d) (hQ : QEntry x) (hn : i64ok n)
    (ha : m.length ≤ 140737488355328) (has : ∀ y ∈ m, y.s.length ≤ 140737488355328) (hI : ids.length ≤ 140737488355328) (hC : R cTimes 0 w C m) (hD : R cId 0 w D ids) :
    Calls Try.prog 5 #[.agg #[.int .u32 x.id.t, .int .u8 x.id.r, .bool x.ready, .bool x.pin, .int .i64 x.used, .bool x.known, .slice A x.snap.length c, .slice B x.got.length d], .slice C m.length k, .int .i64 n, .slice D ids.length l] w fun e w' => e = .returned (.bool true) ∧ Bl w w' := by
  obtain ⟨hQ1, hQ2, hQ3⟩ := hQ
  have hQ2 := hide hQ2
  have has := hide has
  obtain ⟨w0, rfl⟩ : ∃ w0, w0 = w := ⟨_, rfl⟩
  obtain ⟨A0, rfl⟩ : ∃ A0, A0 = A := ⟨_, rfl⟩
  obtain ⟨c0, rfl⟩ : ∃ c0, c0 = c := ⟨_, rfl⟩
  obtain ⟨B0, rfl⟩ : ∃ B0, B0 = B := ⟨_, rfl⟩
  obtain ⟨d0, rfl⟩ : ∃ d0, d0 = d := ⟨_, rfl⟩
  go_enter Try.func5, Try.ntmps5
  go_upto_region 1 with fail
  have at0 : ∀ V, Bl (w0.alloc (.cells #[Value.int IntKind.u32 x.id.t, Value.int IntKind.u8 x.id.r, Value.bool x.ready, Value.bool x.pin, Value.int IntKind.i64 x.used, Value.bool x.known, Value.slice A0 x.snap.length c0, Value.slice B0 x.got.length d0] 31)) V → EntAt V w0.heap.size x A0 c0 B0 d0 := fun V hb => (EntAt.new w0 x A0 c0 B0 d0 _).bl hb
  have hV0 : Bl w0 (w0.alloc (.cells #[Value.int IntKind.u32 x.id.t, Value.int IntKind.u8 x.id.r, Value.bool x.ready, Value.bool x.pin, Value.int IntKind.i64 x.used, Value.bool x.known, Value.slice A0 x.snap.length c0, Value.slice B0 x.got.length d0] 31)) := (Bl.refl _).alloc _
  have hsz0 : (w0.alloc (.cells #[Value.int IntKind.u32 x.id.t, Value.int IntKind.u8 x.id.r, Value.bool x.ready, Value.bool x.pin, Value.int IntKind.i64 x.used, Value.bool x.known, Value.slice A0 x.snap.length c0, Value.slice B0 x.got.length d0] 31)).heap.size = w0.heap.size + 1 := World.size_alloc _ _
  replace at0 := hide at0
  generalize w0.alloc (.cells #[Value.int IntKind.u32 x.id.t, Value.int IntKind.u8 x.id.r, Value.bool x.ready, Value.bool x.pin, Value.int IntKind.i64 x.used, Value.bool x.known, Value.slice A0 x.snap.length c0, Value.slice B0 x.got.length d0] 31) = V0 at *
  have hX := hH.bl hV0
  obtain ⟨x0, x1, x2, x3, x4, x5, x6, x7⟩ := (at0.out _ (Bl.refl _)).cells
  go_wp2_with fail
  clear x0 x1 x2 x3 x4 x5 x6 x7
  refine (refGreat08 A0 c0 x.snap _ hQ1 hQ2.out hX.hS).mono ?_
  rintro e w1 ⟨b1, rfl, hfew, hb1⟩
  replace hfew := hide hfew
  obtain ⟨x0, x1, x2, x3, x4, x5, x6, x7⟩ := (at0.out _ hb1).cells
  cases b1
  rotate_left
  · go_wp2_with fail
    go_ret
    exact ⟨rfl, hV0.trans hb1⟩
  go_wp2_with fail
  clear x0 x1 x2 x3 x4 x5 x6 x7
  refine (refGreat08 C k m _ ha has.out (hC.bl (hV0.trans hb1))).mono ?_
  rintro e w2 ⟨b2, rfl, -, hb2⟩
  have hb02 := hb1.trans hb2
  have hw2 := hV0.trans hb02
  obtain ⟨x0, x1, x2, x3, x4, x5, x6, x7⟩ := (at0.out _ hb02).cells
  cases b2
  rotate_left
  · go_wp2_with fail
    go_ret
    exact ⟨rfl, hw2⟩
  by_cases hg : 300 < x.got.length
  · go_wp2_with fail
    go_ret
    exact ⟨rfl, hw2⟩
  by_cases hl : 100 < ids.length
  · go_wp2_with fail
    go_ret
    exact ⟨rfl, hw2⟩
  have hsm : smallE x := by
    obtain ⟨f1, f2⟩ := hfew.out (by first | rfl | trivial)
    exact ⟨⟨by omega, fun y hy => by have := f2 y hy; omega⟩, by omega⟩
  replace hsm := hide hsm
  clear hfew
  have hmx : m.length ≤ maxLen := by unfold maxLen; omega
  have hix : ids.length ≤ maxLen := by unfold maxLen; omega
  go_wp2_with fail
  clear x0 x1 x2 x3 x4 x5 x6 x7
  refine (refOwn19 x A0 B0 c0 d0 _ hsm.out (hH.hS.bl hw2) (hH.hG.bl hw2)).mono ?_
  rintro e w4 ⟨A4, c4, B4, d4, rfl, l1, l2, l3, l4, hS4, hG4, hb4⟩
  have hx4 : Held w4 x A4 c4 B4 d4 := ⟨l1, l2, l3, l4, hS4.zero, hG4.zero⟩
  clear l1 l2 l3 l4 hS4 hG4
  go_wp2_with fail
  have at4 : ∀ V, Bl (w4.alloc (.cells #[Value.int IntKind.u32 x.id.t, Value.int IntKind.u8 x.id.r, Value.bool x.ready, Value.bool x.pin, Value.int IntKind.i64 x.used, Value.bool x.known, Value.slice A4 x.snap.length c4, Value.slice B4 x.got.length d4] 31)) V → EntAt V w4.heap.size x A4 c4 B4 d4 := fun V hb => (EntAt.new w4 x A4 c4 B4 d4 _).bl hb
  have hV4 : Bl w4 (w4.alloc (.cells #[Value.int IntKind.u32 x.id.t, Value.int IntKind.u8 x.id.r, Value.bool x.ready, Value.bool x.pin, Value.int IntKind.i64 x.used, Value.bool x.known, Value.slice A4 x.snap.length c4, Value.slice B4 x.got.length d4] 31)) := (Bl.refl _).alloc _
  have hsz4 : (w4.alloc (.cells #[Value.int IntKind.u32 x.id.t, Value.int IntKind.u8 x.id.r, Value.bool x.ready, Value.bool x.pin, Value.int IntKind.i64 x.used, Value.bool x.known, Value.slice A4 x.snap.length c4, Value.slice B4 x.got.length d4] 31)).heap.size = w4.heap.size + 1 := World.size_alloc _ _
  replace at4 := hide at4
  generalize w4.alloc (.cells #[Value.int IntKind.u32 x.id.t, Value.int IntKind.u8 x.id.r, Value.bool x.ready, Value.bool x.pin, Value.int IntKind.i64 x.used, Value.bool x.known, Value.slice A4 x.snap.length c4, Value.slice B4 x.got.length d4] 31) = V4 at *
  have hb04 := (hb02.trans hb4).trans hV4
  have hw04 := hV0.trans hb04
  replace hx4 := hx4.bl hV4
  refine (beginF x m hx hmx hx4 (hC.bl hw04)).mono ?_
  rintro e w5 ⟨A5, c5, B5, d5, rfl, l1, l2, l3, l4, hS5, hG5, hb5⟩
  have hx5 : Held w5 (beginE x m) A5 c5 B5 d5 := ⟨l1, l2, l3, l4, hS5.zero, hG5.zero⟩
  clear l1 l2 l3 l4 hS5
  have hrefb := fun W (hb : Bl w0 W) => refBegin22 x m A0 B0 C c0 d0 k W (hH.bl hb) hx hmx (hC.bl hb)
  generalize beginE x m = ea at *
  generalize beginN x m = na at *
  replace hrefb := hide hrefb
  obtain ⟨x0, x1, x2, x3, x4, x5, x6, x7⟩ := (at0.out _ (hb04.trans hb5)).cells
  have hzx := (at0.out _ (hb04.trans hb5)).lt
  go_wp2_with fail
  clear x0 x1 x2 x3 x4 x5 x6 x7 hzx
  have at5 : ∀ V, Bl (w5.alloc (.cells #[Value.int IntKind.u32 ea.id.t, Value.int IntKind.u8 ea.id.r, Value.bool ea.ready, Value.bool ea.pin, Value.int IntKind.i64 ea.used, Value.bool ea.known, Value.slice A5 ea.snap.length c5, Value.slice B5 ea.got.length d5] 31)) V → EntAt V w5.heap.size ea A5 c5 B5 d5 := fun V hb => (EntAt.new w5 ea A5 c5 B5 d5 _).bl hb
  have hV5 : Bl w5 (w5.alloc (.cells #[Value.int IntKind.u32 ea.id.t, Value.int IntKind.u8 ea.id.r, Value.bool ea.ready, Value.bool ea.pin, Value.int IntKind.i64 ea.used, Value.bool ea.known, Value.slice A5 ea.snap.length c5, Value.slice B5 ea.got.length d5] 31)) := (Bl.refl _).alloc _
  have hsz5 : (w5.alloc (.cells #[Value.int IntKind.u32 ea.id.t, Value.int IntKind.u8 ea.id.r, Value.bool ea.ready, Value.bool ea.pin, Value.int IntKind.i64 ea.used, Value.bool ea.known, Value.slice A5 ea.snap.length c5, Value.slice B5 ea.got.length d5] 31)).heap.size = w5.heap.size + 1 := World.size_alloc _ _
  replace at5 := hide at5
  generalize w5.alloc (.cells #[Value.int IntKind.u32 ea.id.t, Value.int IntKind.u8 ea.id.r, Value.bool ea.ready, Value.bool ea.pin, Value.int IntKind.i64 ea.used, Value.bool ea.known, Value.slice A5 ea.snap.length c5, Value.slice B5 ea.got.length d5] 31) = V5 at *
  have hb45 := hb5.trans hV5
  have hw05 := hw04.trans hb45
  refine (hrefb.out _ hw05).mono ?_
  rintro e w6 ⟨A6, c6, B6, d6, rfl, hx6, hb6⟩
  have hb46 := hb45.trans hb6
  obtain ⟨x0, x1, x2, x3, x4, x5, x6, x7⟩ := (at4.out _ hb46).cells
  have hzx := (at4.out _ hb46).lt
  go_wp2_with fail
  clear x0 x1 x2 x3 x4 x5 x6 x7 hzx
  have at6 : ∀ V, Bl (w6.alloc (.cells #[Value.int IntKind.u32 ea.id.t, Value.int IntKind.u8 ea.id.r, Value.bool ea.ready, Value.bool ea.pin, Value.int IntKind.i64 ea.used, Value.bool ea.known, Value.slice A6 ea.snap.length c6, Value.slice B6 ea.got.length d6] 31)) V → EntAt V w6.heap.size ea A6 c6 B6 d6 := fun V hb => (EntAt.new w6 ea A6 c6 B6 d6 _).bl hb
  have hV6 : Bl w6 (w6.alloc (.cells #[Value.int IntKind.u32 ea.id.t, Value.int IntKind.u8 ea.id.r, Value.bool ea.ready, Value.bool ea.pin, Value.int IntKind.i64 ea.used, Value.bool ea.known, Value.slice A6 ea.snap.length c6, Value.slice B6 ea.got.length d6] 31)) := (Bl.refl _).alloc _
  have hsz6 : (w6.alloc (.cells #[Value.int IntKind.u32 ea.id.t, Value.int IntKind.u8 ea.id.r, Value.bool ea.ready, Value.bool ea.pin, Value.int IntKind.i64 ea.used, Value.bool ea.known, Value.slice A6 ea.snap.length c6, Value.slice B6 ea.got.length d6] 31)).heap.size = w6.heap.size + 1 := World.size_alloc _ _
  replace at6 := hide at6
  generalize w6.alloc (.cells #[Value.int IntKind.u32 ea.id.t, Value.int IntKind.u8 ea.id.r, Value.bool ea.ready, Value.bool ea.pin, Value.int IntKind.i64 ea.used, Value.bool ea.known, Value.slice A6 ea.snap.length c6, Value.slice B6 ea.got.length d6] 31) = V6 at *
  replace hb46 := hb46.trans hV6
  have hw06 := hw04.trans hb46
  refine (tookF x n ids hx hn hix (hx4.bl hb46) (hD.bl hw06)).mono ?_
  rintro e w7 ⟨A7, c7, B7, d7, rfl, l1, l2, l3, l4, hS7, hG7, hb7⟩
  have hx7 : Held w7 (tookE x n ids) A7 c7 B7 d7 := ⟨l1, l2, l3, l4, hS7.zero, hG7.zero⟩
  clear l1 l2 l3 l4 hS7
  have hreft := fun W (hb : Bl w0 W) => refTook22 x n ids A0 B0 D c0 d0 l W (hH.bl hb) hx hix (hD.bl hb)
  generalize tookE x n ids = ey at *
  generalize tookN x n ids = nt at *
  replace hreft := hide hreft
  obtain ⟨x0, x1, x2, x3, x4, x5, x6, x7⟩ := (at0.out _ (hb04.trans (hb46.trans hb7))).cells
  have hzx := (at0.out _ (hb04.trans (hb46.trans hb7))).lt
  go_wp2_with fail
  clear x0 x1 x2 x3 x4 x5 x6 x7 hzx
  have at7 : ∀ V, Bl (w7.alloc (.cells #[Value.int IntKind.u32 ey.id.t, Value.int IntKind.u8 ey.id.r, Value.bool ey.ready, Value.bool ey.pin, Value.int IntKind.i64 ey.used, Value.bool ey.known, Value.slice A7 ey.snap.length c7, Value.slice B7 ey.got.length d7] 31)) V → EntAt V w7.heap.size ey A7 c7 B7 d7 := fun V hb => (EntAt.new w7 ey A7 c7 B7 d7 _).bl hb
  have hV7 : Bl w7 (w7.alloc (.cells #[Value.int IntKind.u32 ey.id.t, Value.int IntKind.u8 ey.id.r, Value.bool ey.ready, Value.bool ey.pin, Value.int IntKind.i64 ey.used, Value.bool ey.known, Value.slice A7 ey.snap.length c7, Value.slice B7 ey.got.length d7] 31)) := (Bl.refl _).alloc _
  have hsz7 : (w7.alloc (.cells #[Value.int IntKind.u32 ey.id.t, Value.int IntKind.u8 ey.id.r, Value.bool ey.ready, Value.bool ey.pin, Value.int IntKind.i64 ey.used, Value.bool ey.known, Value.slice A7 ey.snap.length c7, Value.slice B7 ey.got.length d7] 31)).heap.size = w7.heap.size + 1 := World.size_alloc _ _
  replace at7 := hide at7
  generalize w7.alloc (.cells #[Value.int IntKind.u32 ey.id.t, Value.int IntKind.u8 ey.id.r, Value.bool ey.ready, Value.bool ey.pin, Value.int IntKind.i64 ey.used, Value.bool ey.known, Value.slice A7 ey.snap.length c7, Value.slice B7 ey.got.length d7] 31) = V7 at *
  have hb67 := hb7.trans hV7
  have hb47 := hb46.trans hb67
  have hw07 := hw04.trans hb47
  refine (hreft.out _ hw07).mono ?_
  rintro e w8 ⟨A8, c8, B8, d8, rfl, hx8, hb8⟩
  obtain ⟨x0, x1, x2, x3, x4, x5, x6, x7⟩ := (at4.out _ (hb47.trans hb8)).cells
  have hzx := (at4.out _ (hb47.trans hb8)).lt
  go_wp2_with fail
  clear x0 x1 x2 x3 x4 x5 x6 x7 hzx
  have at8 : ∀ V, Bl (w8.alloc (.cells #[Value.int IntKind.u32 ey.id.t, Value.int IntKind.u8 ey.id.r, Value.bool ey.ready, Value.bool ey.pin, Value.int IntKind.i64 ey.used, Value.bool ey.known, Value.slice A8 ey.snap.length c8, Value.slice B8 ey.got.length d8] 31)) V → EntAt V w8.heap.size ey A8 c8 B8 d8 := fun V hb => (EntAt.new w8 ey A8 c8 B8 d8 _).bl hb
  have hV8 : Bl w8 (w8.alloc (.cells #[Value.int IntKind.u32 ey.id.t, Value.int IntKind.u8 ey.id.r, Value.bool ey.ready, Value.bool ey.pin, Value.int IntKind.i64 ey.used, Value.bool ey.known, Value.slice A8 ey.snap.length c8, Value.slice B8 ey.got.length d8] 31)) := (Bl.refl _).alloc _
  have hsz8 : (w8.alloc (.cells #[Value.int IntKind.u32 ey.id.t, Value.int IntKind.u8 ey.id.r, Value.bool ey.ready, Value.bool ey.pin, Value.int IntKind.i64 ey.used, Value.bool ey.known, Value.slice A8 ey.snap.length c8, Value.slice B8 ey.got.length d8] 31)).heap.size = w8.heap.size + 1 := World.size_alloc _ _
  replace at8 := hide at8
  generalize w8.alloc (.cells #[Value.int IntKind.u32 ey.id.t, Value.int IntKind.u8 ey.id.r, Value.bool ey.ready, Value.bool ey.pin, Value.int IntKind.i64 ey.used, Value.bool ey.known, Value.slice A8 ey.snap.length c8, Value.slice B8 ey.got.length d8] 31) = V8 at *
  have hb78 := hb8.trans hV8
  have hb48 := hb47.trans hb78
  have hw08 := hw04.trans hb48
  refine (leftF x hx (hx4.bl hb48)).mono ?_
  rintro e w9 ⟨A9, c9, rfl, m1, m2, hr9, hb9⟩
  have hb49 := hb48.trans hb9
  have hw09 := hw04.trans hb49
  obtain ⟨x0, x1, x2, x3, x4, x5, x6, x7⟩ := (at0.out _ (hb04.trans hb49)).cells
  go_wp2_with fail
  clear x0 x1 x2 x3 x4 x5 x6 x7
  refine (refLeft22 x A0 B0 c0 d0 _ (hH.bl hw09) hx).mono ?_
  rintro e w10 ⟨A10, c10, rfl, m3, m4, hr10, hb10⟩
  have hb410 := hb49.trans hb10
  have hll := leftOf_length x
  replace hr9 := (hr9.bl hb10).zero
  replace hr10 := hr10.zero
  generalize leftOf x = lo at *
  generalize okOr 8 (entryMay x) = no at *
  have hb710 := hb78.trans (hb9.trans hb10)
  have hb510 := hb6.trans (hV6.trans (hb67.trans hb710))
  obtain ⟨y0, y1, y2, y3, y4, y5, y6, y7⟩ := (at5.out _ hb510).cells
  obtain ⟨z0, z1, z2, z3, z4, z5, z6, z7⟩ := (at6.out _ (hb67.trans hb710)).cells
  go_wp2_with fail
  clear y0 y1 y2 y3 y4 y5 y6 y7 z0 z1 z2 z3 z4 z5 z6 z7
  refine (sameSelf ea _ (hx5.bl (hV5.trans hb510)) (hx6.bl (hV6.trans (hb67.trans hb710)))).mono ?_
  rintro e w11 ⟨rfl, hb11⟩
  have e1 : (na == na) = true := by simp
  have hb711 := hb710.trans hb11
  obtain ⟨y0, y1, y2, y3, y4, y5, y6, y7⟩ := (at7.out _ hb711).cells
  obtain ⟨z0, z1, z2, z3, z4, z5, z6, z7⟩ := (at8.out _ ((hb9.trans hb10).trans hb11)).cells
  go_wp2_with fail
  clear y0 y1 y2 y3 y4 y5 y6 y7 z0 z1 z2 z3 z4 z5 z6 z7
  refine (sameSelf ey _ (hx7.bl (hV7.trans hb711)) (hx8.bl (hV8.trans ((hb9.trans hb10).trans hb11)))).mono ?_
  rintro e w12 ⟨rfl, hb12⟩
  have e2 : (nt == nt) = true := by simp
  have e3 : ((lo.length : Int) == (lo.length : Int)) = true := by simp
  have e4 : (no == no) = true := by simp
  go_upto_region 12 with fail
  have hb512 := hb510.trans (hb11.trans hb12)
  have hb712 := hb711.trans hb12
  replace hr9 := hr9.bl (hb11.trans hb12)
  replace hr10 := hr10.bl (hb11.trans hb12)
  have hb412 := (hb410.trans hb11).trans hb12
  have hat5 := at5.out _ hb512
  have hat7 := at7.out _ hb712
  have hG5' := hG5.bl (hV5.trans hb512)
  have hG7' := hG7.bl (hV7.trans hb712)
  have hB5 : ea.got.length = 0 ∨ ∃ b off, B5 = some ⟨b, off, none⟩ ∧ V4.heap.size ≤ b ∧ b < w5.heap.size := by
    by_cases h0 : ea.got.length = 0
    · exact .inl h0
    · obtain ⟨b, off, e, h1, h2⟩ := hG5.addr (by omega)
      exact .inr ⟨b, off, e, h1, h2⟩
  have hB7 : ey.got.length = 0 ∨ ∃ b off, B7 = some ⟨b, off, none⟩ ∧ V6.heap.size ≤ b ∧ b < w7.heap.size := by
    by_cases h0 : ey.got.length = 0
    · exact .inl h0
    · obtain ⟨b, off, e, h1, h2⟩ := hG7.addr (by omega)
      exact .inr ⟨b, off, e, h1, h2⟩
  have hq5 := hx5.l3
  have hq5' := hx5.l4
  have hq7 := hx7.l3
  have hq7' := hx7.l4
  unfold maxLen at hq5' hq7'
  have hz1 : V4.heap.size ≤ w5.heap.size := hb5.size
  have hz2 : w5.heap.size < V6.heap.size := by have := (hb6.trans hV6).size; omega
  have hz3 : V6.heap.size ≤ w7.heap.size := hb7.size
  have hz4 : w0.heap.size ≤ V4.heap.size := hw04.size
  clear hG5 hG7 hb45 hw05 hb46 hw06 hb67 hb47 hw07 hb78 hb48 hw08 hb49 hw09 hb410 hb710 hb510 hb711 hb512 hb712 hb11 hb12 hx5 hx6 hx7 hx8 hb5 hb6 hb7 hb8 hb9 hb10 hV5 hV6 hV7 hV8 hsz5 hsz6 hsz7 hsz8 at5 at6 at7 at8 e1 e2 e3 e4 m1 m2 m3 m4
  go_loopw [22, 23] (fun o i wr => Bl w12 wr ∧ ∃ k : Nat, k ≤ lo.length ∧ i = .int .i64 k ∧ o = .bool true) (fun _ i _ => lo.length - (intOf i).toNat)
  case atStart => exact ⟨Bl.refl _, 0, Nat.zero_le _, rfl, rfl⟩
  case round =>
    obtain ⟨hbl, j, hj, rfl, rfl⟩ := hrel
    by_cases hlt : j < lo.length
    · have hR := hr9.bl hbl
      have hS := hr10.bl hbl
      obtain ⟨b, off, rfl, _, hb⟩ := hR.addr (by omega)
      obtain ⟨b', off', rfl, _, hb'⟩ := hS.addr (by omega)
      obtain ⟨y, hy⟩ := get_lt hlt
      obtain ⟨_, _, p0⟩ := hR.int hy
      obtain ⟨_, _, p1⟩ := hS.int hy
      have C0 := fun p : Wd wr => Wd.cell p0 hb p
      have D0 := fun p : Wd wr => Wd.cell p1 hb' p
      have e5 : (y == y) = true := by simp
      have hi : (j : Int) < (lo.length : Int) := by omega
      clear p0 p1 hy
      go_wp2
      (refine wp_region_wd (by kernel_rfl) (by kernel_rfl) ?_
       repeat (go_big_quiet_step ((fail)))
       refine wpQuiet_nil ?_
       intro W2 hw'
       obtain ⟨⟨wx, hb2⟩, hw''⟩ := hw'
       subst hw'')
      go_wp2
      go_roundw
      case rel => exact ⟨hbl.trans hb2, j + 1, by omega, by go_num, rfl⟩
      case measure => simp [intOf]; omega
    · go_upto_region 16 with fail
      have hb4r := hb412.trans hbl
      replace hat5 := hat5.bl hbl
      replace hat7 := hat7.bl hbl
      replace hG5' := hG5'.bl hbl
      replace hG7' := hG7'.bl hbl
      obtain ⟨wq, rfl⟩ : ∃ wq, wq = wr := ⟨_, rfl⟩
      clear hr9 hr10
      go_loopw [24] (fun i wr => Bl V4 wr ∧ ∃ (j : Nat) (g : List Bool), j ≤ ea.got.length ∧ i = .int .i64 j ∧ g.length = ea.got.length ∧ R cBool V4.heap.size wr B5 g ∧ EntAt wr w5.heap.size ea A5 c5 B5 d5 ∧ EntAt wr w7.heap.size ey A7 c7 B7 d7 ∧ R cBool V6.heap.size wr B7 ey.got) (fun i _ => ea.got.length - (intOf i).toNat)
      case atStart => exact ⟨hb4r, 0, _, Nat.zero_le _, rfl, rfl, hG5', hat5, hat7, hG7'⟩
      case round =>
        obtain ⟨hbq, j2, g, hj2, rfl, hgl, hRg, hta, hty, hRy⟩ := hrel
        obtain ⟨y0, y1, y2, y3, y4, y5, y6, y7⟩ := hta.cells
        by_cases hlt2 : j2 < ea.got.length
        · obtain ⟨b, off, rfl, hb1, hb2⟩ : ∃ b off, B5 = some ⟨b, off, none⟩ ∧ V4.heap.size ≤ b ∧ b < w5.heap.size := by
            rcases hB5 with h | h
            · omega
            · exact h
          obtain ⟨v, hv⟩ := get_lt (show j2 < g.length by omega)
          obtain ⟨_, hc, hf⟩ := hRg.bool hv
          have hR2 := hRg.putBool (k := j2) (v := !v) (by omega)
          have hta2 := hta.other (E := b) (o := off + j2) (by omega) (.bool (!v))
          have hty2 := hty.other (E := b) (o := off + j2) (by omega) (.bool (!v))
          have hRy2 := hRy.set (p := ⟨b, off + j2, none⟩) (by show b < V6.heap.size; omega) (.bool (!v))
          have hbq2 := hbq.setCell (p := ⟨b, off + j2, none⟩) hb1 (.bool (!v))
          have hi : (j2 : Int) < (ea.got.length : Int) := by omega
          go_upto_region 18 with fail
          go_still_tail 10, (by kernel_rfl)
          go_wp2
          go_roundw
          case rel => exact ⟨hbq2.drew, j2 + 1, _, by omega, by go_num, by rw [List.length_set]; exact hgl, hR2.bl (Bl.refl _).drew, hta2.bl (Bl.refl _).drew, hty2.bl (Bl.refl _).drew, hRy2.bl (Bl.refl _).drew⟩
          case measure => simp [intOf]; omega
        · go_upto_region 20 with fail
          clear hat5 hat7 hG5' hG7' hRg y0 y1 y2 y3 y4 y5 y6 y7
          obtain ⟨wp, rfl⟩ : ∃ wp, wp = wr := ⟨_, rfl⟩
          go_loopw [25] (fun i wr => Bl V4 wr ∧ ∃ (j : Nat) (g : List Bool), j ≤ ey.got.length ∧ i = .int .i64 j ∧ g.length = ey.got.length ∧ EntAt wr w7.heap.size ey A7 c7 B7 d7 ∧ R cBool V6.heap.size wr B7 g) (fun i _ => ey.got.length - (intOf i).toNat)
          case atStart => exact ⟨hbq, 0, _, Nat.zero_le _, rfl, rfl, hty, hRy⟩
          case round =>
            clear hty hRy hta
            obtain ⟨hbs, j3, g3, hj3, rfl, hgl3, hty, hRy⟩ := hrel
            obtain ⟨y0, y1, y2, y3, y4, y5, y6, y7⟩ := hty.cells
            by_cases hlt3 : j3 < ey.got.length
            · obtain ⟨b, off, rfl, hb1, hb2⟩ : ∃ b off, B7 = some ⟨b, off, none⟩ ∧ V6.heap.size ≤ b ∧ b < w7.heap.size := by
                rcases hB7 with h | h
                · omega
                · exact h
              obtain ⟨v, hv⟩ := get_lt (show j3 < g3.length by omega)
              obtain ⟨_, hc, hf⟩ := hRy.bool hv
              have hty2 := hty.other (E := b) (o := off + j3) (by omega) (.bool (!v))
              have hRy2 := hRy.putBool (k := j3) (v := !v) (by omega)
              have hbs2 := hbs.setCell (p := ⟨b, off + j3, none⟩) (by show V4.heap.size ≤ b; omega) (.bool (!v))
              have hi : (j3 : Int) < (ey.got.length : Int) := by omega
              go_upto_region 22 with fail
              go_still_tail 10, (by kernel_rfl)
              go_wp2
              go_roundw
              case rel => exact ⟨hbs2.drew, j3 + 1, _, by omega, by go_num, by rw [List.length_set]; exact hgl3, hty2.bl (Bl.refl _).drew, hRy2.bl (Bl.refl _).drew⟩
              case measure => simp [intOf]; omega
            · obtain ⟨z0, z1, z2, z3, z4, z5, z6, z7⟩ := (at4.out _ hbs).cells
              obtain ⟨x0, x1, x2, x3, x4, x5, x6, x7⟩ := (at0.out _ (hb04.trans hbs)).cells
              go_wp2_with fail
              refine (sameSelf x _ (hx4.bl hbs) (hH.bl (hw04.trans hbs))).mono ?_
              rintro e wz ⟨rfl, hbz⟩
              go_wp2_with fail
              go_ret
              exact ⟨rfl, (hw04.trans hbs).trans hbz⟩
end Go.Proofs.Ytegmddgbdjlidaa

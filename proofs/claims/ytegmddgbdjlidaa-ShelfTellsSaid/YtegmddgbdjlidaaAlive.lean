/-
  The walk of the law's inner function alive.
-/
import Derived.Test.YtegmddgbdjlidaaLaw22
namespace Go.Proofs.Ytegmddgbdjlidaa
open Go.RowKit

/-- fetch.Took at an entry that was just laid into a variable, and one stamp. -/
theorem tookBox (x : Entry) (n t r : Int) {y : Entry} {m : Int} (hp : tookN x n [⟨t, r⟩] = m ∧ tookE x n [⟨t, r⟩] = y) (hx : x.ok) (hn : i64ok n) (hid : Id.ok ⟨t, r⟩) {A B : Option Addr} {c d : Nat} {w : World} (h : Held w x A c B d) :
    Calls Try.prog 25 #[.agg #[.int .u32 x.id.t, .int .u8 x.id.r, .bool x.ready, .bool x.pin, .int .i64 x.used, .bool x.known, .slice A x.snap.length c, .slice B x.got.length d], .int .i64 n, .slice (some ⟨w.heap.size, 0, none⟩) 1 1] (w.alloc (.cells #[Value.int IntKind.u32 t, Value.int IntKind.u8 r] 25)) fun e w' => EntN y m w e w' :=
  (tookC x n [⟨t, r⟩] hp hx hn (show 1 ≤ maxLen by decide) (h.bl ((Bl.refl _).alloc _)) (idRow w ⟨t, r⟩ hid)).mono fun _ _ ⟨A, c, B, d, he, hh, hb⟩ => ⟨A, c, B, d, he, hh, ((Bl.refl _).alloc _).trans hb⟩
theorem leftBox1 (x : Entry) (p : Int) (hp : leftIs x [p] = true) (hx : x.ok) (h1 : i64ok p) {A B : Option Addr} {c d : Nat} {w : World} (h : Held w x A c B d) :
    Calls Try.prog 62 #[.agg #[.int .u32 x.id.t, .int .u8 x.id.r, .bool x.ready, .bool x.pin, .int .i64 x.used, .bool x.known, .slice A x.snap.length c, .slice B x.got.length d], .slice (some ⟨w.heap.size, 0, none⟩) 1 1] (w.alloc (.cells #[Value.int IntKind.i64 p] 3)) fun e w' => e = .returned (.bool true) ∧ Bl w w' :=
  (leftN x [p] hp hx (h.bl ((Bl.refl _).alloc _)) (intRow1 w p h1)).mono fun _ _ ⟨he, hb⟩ => ⟨he, ((Bl.refl _).alloc _).trans hb⟩
theorem leftBox2 (x : Entry) (p q : Int) (hp : leftIs x [p, q] = true) (hx : x.ok) (h1 : i64ok p) (h2 : i64ok q) {A B : Option Addr} {c d : Nat} {w : World} (h : Held w x A c B d) :
    Calls Try.prog 62 #[.agg #[.int .u32 x.id.t, .int .u8 x.id.r, .bool x.ready, .bool x.pin, .int .i64 x.used, .bool x.known, .slice A x.snap.length c, .slice B x.got.length d], .slice (some ⟨w.heap.size, 0, none⟩) 2 2] (w.alloc (.cells #[Value.int IntKind.i64 p, Value.int IntKind.i64 q] 3)) fun e w' => e = .returned (.bool true) ∧ Bl w w' :=
  (leftN x [p, q] hp hx (h.bl ((Bl.refl _).alloc _)) (intRow2 w p q h1 h2)).mono fun _ _ ⟨he, hb⟩ => ⟨he, ((Bl.refl _).alloc _).trans hb⟩

set_option maxRecDepth 100000 in
set_option maxHeartbeats 1000000 in
theorem aliveC (w : World) : Calls Try.prog 28 #[] w fun e w' => e = .returned (.bool true) ∧ Bl w w' := by
  have hi0 : i64ok 0 := ⟨by decide, by decide⟩
  have hi1 : i64ok 1 := ⟨by decide, by decide⟩
  have hid : Id.ok ⟨9, 0⟩ := ⟨by decide, by decide, by decide, by decide⟩
  go_enter Try.func28, Try.ntmps28
  go_wp2_with fail
  refine (nine1 _).mono ?_
  rintro e w1 ⟨A1, c1, rfl, hr1, hb1⟩
  go_wp2_with fail
  refine (begin1 A1 c1 _ hr1).mono ?_
  rintro e w2 ⟨A2, c2, B2, d2, rfl, hx2, hb2⟩
  have hbw := hb1.trans hb2
  clear hb1 hb2 hr1
  go_wp2_with fail
  have at2 : ∀ V, Bl (w2.alloc (.cells #[Value.int IntKind.u32 ex1.id.t, Value.int IntKind.u8 ex1.id.r, Value.bool ex1.ready, Value.bool ex1.pin, Value.int IntKind.i64 ex1.used, Value.bool ex1.known, Value.slice A2 ex1.snap.length c2, Value.slice B2 ex1.got.length d2] 31)) V → EntAt V w2.heap.size ex1 A2 c2 B2 d2 := fun V hb => (EntAt.new w2 ex1 A2 c2 B2 d2 _).bl hb
  have hbl2 : Bl w (w2.alloc (.cells #[Value.int IntKind.u32 ex1.id.t, Value.int IntKind.u8 ex1.id.r, Value.bool ex1.ready, Value.bool ex1.pin, Value.int IntKind.i64 ex1.used, Value.bool ex1.known, Value.slice A2 ex1.snap.length c2, Value.slice B2 ex1.got.length d2] 31)) := hbw.alloc _
  replace hx2 : Held (w2.alloc (.cells #[Value.int IntKind.u32 ex1.id.t, Value.int IntKind.u8 ex1.id.r, Value.bool ex1.ready, Value.bool ex1.pin, Value.int IntKind.i64 ex1.used, Value.bool ex1.known, Value.slice A2 ex1.snap.length c2, Value.slice B2 ex1.got.length d2] 31)) ex1 A2 c2 B2 d2 := hx2.bl ((Bl.refl _).alloc _)
  have hsz : (w2.alloc (.cells #[Value.int IntKind.u32 ex1.id.t, Value.int IntKind.u8 ex1.id.r, Value.bool ex1.ready, Value.bool ex1.pin, Value.int IntKind.i64 ex1.used, Value.bool ex1.known, Value.slice A2 ex1.snap.length c2, Value.slice B2 ex1.got.length d2] 31)).heap.size = w2.heap.size + 1 := World.size_alloc _ _
  replace at2 := hide at2
  generalize w2.alloc (.cells #[Value.int IntKind.u32 ex1.id.t, Value.int IntKind.u8 ex1.id.r, Value.bool ex1.ready, Value.bool ex1.pin, Value.int IntKind.i64 ex1.used, Value.bool ex1.known, Value.slice A2 ex1.snap.length c2, Value.slice B2 ex1.got.length d2] 31) = V2 at *
  rw [← hsz]
  refine (tookBox ex1 1 9 0 plain_took okex1 hi1 hid hx2).mono ?_
  rintro e w3 ⟨A3, c3, B3, d3, rfl, hx3, hb3⟩
  obtain ⟨y0, y1, y2, y3, y4, y5, y6, y7⟩ := (at2.out _ hb3).cells
  have hz3 := (at2.out _ hb3).lt
  go_wp2_with fail
  have at3 : ∀ V, Bl (w3.alloc (.cells #[Value.int IntKind.u32 ex2.id.t, Value.int IntKind.u8 ex2.id.r, Value.bool ex2.ready, Value.bool ex2.pin, Value.int IntKind.i64 ex2.used, Value.bool ex2.known, Value.slice A3 ex2.snap.length c3, Value.slice B3 ex2.got.length d3] 31)) V → EntAt V w3.heap.size ex2 A3 c3 B3 d3 := fun V hb => (EntAt.new w3 ex2 A3 c3 B3 d3 _).bl hb
  have hbl3 : Bl w (w3.alloc (.cells #[Value.int IntKind.u32 ex2.id.t, Value.int IntKind.u8 ex2.id.r, Value.bool ex2.ready, Value.bool ex2.pin, Value.int IntKind.i64 ex2.used, Value.bool ex2.known, Value.slice A3 ex2.snap.length c3, Value.slice B3 ex2.got.length d3] 31)) := (hbl2.trans hb3).alloc _
  have hx2' : Held (w3.alloc (.cells #[Value.int IntKind.u32 ex2.id.t, Value.int IntKind.u8 ex2.id.r, Value.bool ex2.ready, Value.bool ex2.pin, Value.int IntKind.i64 ex2.used, Value.bool ex2.known, Value.slice A3 ex2.snap.length c3, Value.slice B3 ex2.got.length d3] 31)) ex1 A2 c2 B2 d2 := hx2.bl (hb3.alloc _)
  have hx3' : Held (w3.alloc (.cells #[Value.int IntKind.u32 ex2.id.t, Value.int IntKind.u8 ex2.id.r, Value.bool ex2.ready, Value.bool ex2.pin, Value.int IntKind.i64 ex2.used, Value.bool ex2.known, Value.slice A3 ex2.snap.length c3, Value.slice B3 ex2.got.length d3] 31)) ex2 A3 c3 B3 d3 := hx3.bl ((Bl.refl _).alloc _)
  have hsz3 : (w3.alloc (.cells #[Value.int IntKind.u32 ex2.id.t, Value.int IntKind.u8 ex2.id.r, Value.bool ex2.ready, Value.bool ex2.pin, Value.int IntKind.i64 ex2.used, Value.bool ex2.known, Value.slice A3 ex2.snap.length c3, Value.slice B3 ex2.got.length d3] 31)).heap.size = w3.heap.size + 1 := World.size_alloc _ _
  replace at3 := hide at3
  clear hx3 hx2 y0 y1 y2 y3 y4 y5 y6 y7 hz3 at2
  generalize w3.alloc (.cells #[Value.int IntKind.u32 ex2.id.t, Value.int IntKind.u8 ex2.id.r, Value.bool ex2.ready, Value.bool ex2.pin, Value.int IntKind.i64 ex2.used, Value.bool ex2.known, Value.slice A3 ex2.snap.length c3, Value.slice B3 ex2.got.length d3] 31) = V3 at *
  rw [← hsz3]
  refine (leftBox2 ex1 0 1 plain_left.1 okex1 hi0 hi1 hx2').mono ?_
  rintro e w4 ⟨rfl, hb4⟩
  obtain ⟨y0, y1, y2, y3, y4, y5, y6, y7⟩ := (at3.out _ hb4).cells
  go_wp2_with fail
  refine (leftBox1 ex2 0 plain_left.2 okex2 hi0 (hx3'.bl hb4)).mono ?_
  rintro e w5 ⟨rfl, hb5⟩
  clear y0 y1 y2 y3 y4 y5 y6 y7
  have y2 := (at3.out _ (hb4.trans hb5)).cells.2.2.1
  rw [show ex2.ready = false by with_unfolding_all rfl] at y2
  go_wp2_with fail
  go_ret
  exact ⟨rfl, hbl3.trans (hb4.trans hb5)⟩
end Go.Proofs.Ytegmddgbdjlidaa

/-
  The walks of layer 22's references: Rest, done, Started, Begin.
-/
import Derived.Test.YtegmddgbdjlidaaRef19One
import Derived.Test.YtegmddgbdjlidaaOff
namespace Go.Proofs.Ytegmddgbdjlidaa
open Go.RowKit

set_option maxRecDepth 100000 in
set_option maxHeartbeats 1000000 in
theorem refRest (x : Entry) (A B : Option Addr) (c d : Nat) (w : World) (hgl : x.got.length ≤ 1048576) (hB : R cBool 0 w B x.got) :
    Calls Try.prog 69 #[.agg #[.int .u32 x.id.t, .int .u8 x.id.r, .bool x.ready, .bool x.pin, .int .i64 x.used, .bool x.known, .slice A x.snap.length c, .slice B x.got.length d]] w (New cInt (leftFrom 0 x.got) w) := by
  obtain ⟨i0, hi, hz0, hz1, hz2⟩ := info_parts Try.infoInt
  go_enter Try.func69, Try.ntmps69
  go_upto_region 3 with fail
  have at0 : ∀ V, Bl (w.alloc (.cells #[Value.int IntKind.u32 x.id.t, Value.int IntKind.u8 x.id.r, Value.bool x.ready, Value.bool x.pin, Value.int IntKind.i64 x.used, Value.bool x.known, Value.slice A x.snap.length c, Value.slice B x.got.length d] 31)) V → EntAt V w.heap.size x A c B d := fun V hb => (EntAt.new w x A c B d _).bl hb
  have hbl0 : Bl w (w.alloc (.cells #[Value.int IntKind.u32 x.id.t, Value.int IntKind.u8 x.id.r, Value.bool x.ready, Value.bool x.pin, Value.int IntKind.i64 x.used, Value.bool x.known, Value.slice A x.snap.length c, Value.slice B x.got.length d] 31)) := (Bl.refl _).alloc _
  have hsz0 : w.heap.size < (w.alloc (.cells #[Value.int IntKind.u32 x.id.t, Value.int IntKind.u8 x.id.r, Value.bool x.ready, Value.bool x.pin, Value.int IntKind.i64 x.used, Value.bool x.known, Value.slice A x.snap.length c, Value.slice B x.got.length d] 31)).heap.size := by rw [World.size_alloc]; omega
  replace at0 := hide at0
  generalize w.alloc (.cells #[Value.int IntKind.u32 x.id.t, Value.int IntKind.u8 x.id.r, Value.bool x.ready, Value.bool x.pin, Value.int IntKind.i64 x.used, Value.bool x.known, Value.slice A x.snap.length c, Value.slice B x.got.length d] 31) = V0 at *
  go_loopw [3, 4] (fun v i wr => Bl V0 wr ∧ ∃ (k : Nat) (pre : List Int), k ≤ x.got.length ∧ i = .int .i64 k ∧ Own cInt 3 V0.heap.size wr v pre ∧ Hid (leftFrom 0 x.got = pre ++ leftFrom k (x.got.drop k))) (fun _ i _ => x.got.length - (intOf i).toNat)
  case atStart => exact ⟨Bl.refl _, 0, [], Nat.zero_le _, rfl, Own.nil, rfl⟩
  case round =>
    obtain ⟨hbl, k, pre, hk, rfl, hwn, hf⟩ := hrel
    have y7 := (at0.out _ hbl).cells.2.2.2.2.2.2.2
    by_cases hlt : k < x.got.length
    · have hR := hB.bl (hbl0.trans hbl)
      obtain ⟨b, off, rfl, _, hb⟩ := hR.addr (by omega)
      obtain ⟨y, hy⟩ := get_lt hlt
      obtain ⟨_, c0, _⟩ := hR.bool hy
      have hd := hide (drop_cons hy)
      clear hy
      cases y
      · have hf6 : Hid (leftFrom 0 x.got = (pre ++ [(k : Int)]) ++ leftFrom ((k + 1 : Nat) : Int) (x.got.drop (k + 1))) := by rw [Hid, hf.out, hd.out, leftFrom]; simp
        have hlp : pre.length + 1 ≤ x.got.length := by
          have h1 := congrArg List.length hf6.out
          have h2 := leftFrom_length x.got 0
          simp only [List.length_append, List.length_cons, List.length_nil] at h1
          omega
        have hik : i64ok (k : Int) := ⟨by omega, by omega⟩
        go_wp2_with (at_builtin
                     (refine wpList_append_any2 (C := cInt) (xs := pre) (ys := [(k : Int)]) rfl (.tmp 18) (.tmp 20) _ rfl 3 i0 _ 8 Try.underlying48 hi hz0 hz1 hz2 rfl _ V0.heap.size rfl (hwn.bl ((Bl.refl _).alloc _)) (some ⟨wr.heap.size, 0, none⟩) 1 _ rfl rfl (hwn.src (cs := [Value.int IntKind.i64 (k : Int)]) (Bl.refl _) hbl.size ⟨hik, rfl⟩) ?c1 ?c2 ?c3 ?_)
                     case c1 => simp [maxLen]; omega
                     case c2 => simp; omega
                     case c3 => have := hbl.size; simp; omega
                     intro v7 w7 hown7 hg7 hfar7)
        have hbl7 : Bl V0 w7 := (hbl.alloc _).app (hwn.bl ((Bl.refl _).alloc _)) (Nat.le_refl _) hg7
        go_roundw
        case rel => exact ⟨hbl7, k + 1, _, by omega, by go_num, hown7, hf6⟩
        case measure => simp [intOf]; omega
      · have hf6 : Hid (leftFrom 0 x.got = pre ++ leftFrom ((k + 1 : Nat) : Int) (x.got.drop (k + 1))) := by rw [Hid, hf.out, hd.out, leftFrom]; simp
        go_wp2
        go_roundw
        case rel => exact ⟨hbl, k + 1, _, by omega, by go_num, hwn, hf6⟩
        case measure => simp [intOf]; omega
    · have hkl : x.got.length ≤ k := by omega
      go_wp2
      go_ret
      have hfin : pre = leftFrom 0 x.got := by rw [hf.out, List.drop_eq_nil_of_le hkl]; simp [leftFrom]
      obtain ⟨A', c', rfl, hr, h1, h2⟩ := hwn.reads
      rw [hfin] at *
      exact ⟨A', c', rfl, h1, h2, hr.more hbl0.size, hbl0.trans hbl⟩

/-- What hands back an entry: held. -/
def EntR (y : Entry) (w : World) (e : Ending) (w' : World) : Prop := ∃ A c B d, e = .returned (.agg #[.int .u32 y.id.t, .int .u8 y.id.r, .bool y.ready, .bool y.pin, .int .i64 y.used, .bool y.known, .slice A y.snap.length c, .slice B y.got.length d]) ∧ Held w' y A c B d ∧ Bl w w'
/-- .. clear of two blocks. -/
def EntO (Y G : Nat) (y : Entry) (w : World) (e : Ending) (w' : World) : Prop := ∃ A c B d, e = .returned (.agg #[.int .u32 y.id.t, .int .u8 y.id.r, .bool y.ready, .bool y.pin, .int .i64 y.used, .bool y.known, .slice A y.snap.length c, .slice B y.got.length d]) ∧ HeldO Y G w' y A c B d ∧ Bl w w'
/-- An entry, ready if all its chunks are got. -/
def doneE (x : Entry) : Entry := if someNot x.got then x else ⟨x.id, true, x.pin, x.used, false, [], []⟩
theorem left_none (l : List Bool) : (someNot l = true → 0 < (leftFrom 0 l).length) ∧ (someNot l = false → (leftFrom 0 l).length = 0) := by
  rw [missing_left, missing_someNot]
  constructor
  · intro h; exact of_decide_eq_true h
  · intro h; have := of_decide_eq_false h; omega
set_option maxRecDepth 100000 in
set_option maxHeartbeats 1000000 in
theorem refDone (Y G : Nat) (x : Entry) (A B : Option Addr) (c d : Nat) (w : World) (hgl : x.got.length ≤ 1048576) (hx : HeldO Y G w x A c B d) :
    Calls Try.prog 98 #[.agg #[.int .u32 x.id.t, .int .u8 x.id.r, .bool x.ready, .bool x.pin, .int .i64 x.used, .bool x.known, .slice A x.snap.length c, .slice B x.got.length d]] w (EntO Y G (doneE x) w) := by
  have hrest := fun W (hb : Bl w W) => refRest x A B c d W hgl (hx.held.hG.bl hb)
  obtain ⟨hl1, hl2⟩ := left_none x.got
  replace hrest := hide hrest
  go_enter Try.func98, Try.ntmps98
  go_wp2_with fail
  obtain ⟨W, hW⟩ : ∃ W, W = (w.alloc (Obj.cells #[Value.int IntKind.u32 x.id.t, Value.int IntKind.u8 x.id.r, Value.bool x.ready, Value.bool x.pin, Value.int IntKind.i64 x.used, Value.bool x.known, Value.slice A x.snap.length c, Value.slice B x.got.length d] 31)).alloc (Obj.cells #[Value.int IntKind.u32 0, Value.int IntKind.u8 0, Value.bool false, Value.bool false, Value.int IntKind.i64 0, Value.bool false, Value.slice none 0 0, Value.slice none 0 0] 31) := ⟨_, rfl⟩
  rw [← hW]
  have hblW : Bl w W := by rw [hW]; exact ((Bl.refl _).alloc _).alloc _
  have at0 : EntAt W w.heap.size x A c B d := by rw [hW]; exact (EntAt.new w x A c B d _).bl ((Bl.refl _).alloc _)
  have at1 : EntAt W (w.heap.size + 1) zeroE none 0 none 0 := by
    have := EntAt.new (w.alloc (Obj.cells #[Value.int IntKind.u32 x.id.t, Value.int IntKind.u8 x.id.r, Value.bool x.ready, Value.bool x.pin, Value.int IntKind.i64 x.used, Value.bool x.known, Value.slice A x.snap.length c, Value.slice B x.got.length d] 31)) zeroE none 0 none 0 31
    rw [World.size_alloc] at this
    rw [hW]
    exact this
  clear hW
  refine (hrest.out _ hblW).mono ?_
  rintro e w1 ⟨A1, c1, rfl, q1, q2, hr, hb1⟩
  have hs0 := at0.lt
  have hs1 := at1.lt
  have hs2 := hb1.size
  obtain ⟨x0, x1, x2, x3, x4, x5, x6, x7⟩ := (at0.bl hb1).cells
  obtain ⟨y0, y1, y2, y3, y4, y5, y6, y7⟩ := (at1.bl hb1).cells
  obtain ⟨f0, f1, f2, f3, f4, f5, f6, f7⟩ := (at1.bl hb1).frozens
  have hbl := hblW.trans hb1
  cases hs : someNot x.got
  · have hl := hl2 hs
    have e1 := hide (show doneE x = ⟨x.id, true, x.pin, x.used, false, [], []⟩ by unfold doneE; rw [hs]; rfl)
    rw [hl]
    clear hl hl1 hl2 hs
    go_wp2_with fail
    refine bodyPost_ret (v := .agg #[.int .u32 x.id.t, .int .u8 x.id.r, .bool true, .bool x.pin, .int .i64 x.used, .bool false, .slice none 0 0, .slice none 0 0]) (by simp [results, Try.results98, go_sem, y0, y1, y2, y3, y4, y5, y6, y7]) rfl ?_
    rw [e1.out]
    refine ⟨none, 0, none, 0, rfl, ⟨Nat.le_refl _, Nat.zero_le _, Nat.le_refl _, Nat.zero_le _, RS.nil, RS.nil⟩, ?_⟩
    repeat (refine Bl.setCell ?_ (by simp) _)
    exact hbl
  · have hl := hl1 hs
    have e1 := hide (show doneE x = x by unfold doneE; rw [hs]; rfl)
    clear hl1 hl2 hs
    have hset := set8_bl hbl (Y := w.heap.size + 1) (by omega) x A c B d
    go_wp2_with fail
    refine bodyPost_ret (v := .agg #[.int .u32 x.id.t, .int .u8 x.id.r, .bool x.ready, .bool x.pin, .int .i64 x.used, .bool x.known, .slice A x.snap.length c, .slice B x.got.length d]) (by simp [results, Try.results98, go_sem, y0, y1, y2, y3, y4, y5, y6, y7]) rfl ?_
    rw [e1.out]
    exact ⟨A, c, B, d, rfl, hx.bl hset, hset⟩
end Go.Proofs.Ytegmddgbdjlidaa

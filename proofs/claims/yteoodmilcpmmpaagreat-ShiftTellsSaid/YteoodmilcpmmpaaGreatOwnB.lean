/-
  The walks of shelf.own, shelf.Twin, and of the references'.
  The walks of shelf.Twin, and of the references Own and Twin of layer 19.
  The walk of fetch.own.
-/
import Derived.Test.YteoodmilcpmmpaaGreatEntB
import Derived.Test.YteoodmilcpmmpaaGreatSpanB
import Derived.Test.YteoodmilcpmmpaaGreatBox
namespace Go.Proofs.YteoodmilcpmmpaaGreat

open Go.RowKit

theorem flatBool : ∀ {w : World} {S : Nat → Prop} {x : Bool} {cs : List Value}, cBool.rd w S x cs → ∀ S', cBool.rd w S' x cs := fun h _ => h

theorem Tryz.infoBool : (Tryz.prog.info? 4).map (fun i => (i.zero, i.size, i.bytes)) = some (some (.bool false), 1, 1) := by kernel_rfl

set_option maxHeartbeats 400000 in
theorem boolClone (A : Option Addr) (c : Nat) (l : List Bool) (w : World) (hl : l.length ≤ 1048576) (hA : R cBool 0 w A l) :
    Calls Tryz.prog 151 #[.slice A l.length c] w (New cBool l w) := by
  obtain ⟨i0, hi, hz0, hz1, hz2⟩ := info_parts Tryz.infoBool
  have hnil := fun (W : World) (a : Option Addr) (n c : Nat) => Lib.run_eql_slice_nil (P := Tryz.prog) W 60 4 a n c 0 0 Tryz.underlying60
  have hl : l.length ≤ 9223372036854775807 := by omega
  cases A with
  | none =>
    obtain ⟨_, _, _, h0⟩ := hA.all
    obtain rfl := h0 rfl
    go_enter Tryz.func151, Tryz.ntmps151
    go_wp2
    go_ret
    exact ⟨none, 0, rfl, Nat.le_refl _, by unfold maxLen; omega, R.nil, Bl.refl _⟩
  | some ad =>
    go_enter Tryz.func151, Tryz.ntmps151
    go_wp2_with (at_builtin
                 refine wpList_append_any2 (C := cBool) (xs := []) (ys := l) rfl (.tmp 5) (.tmp 6) _ rfl 4 i0 _ 1 Tryz.underlying60 hi hz0 hz1 hz2 rfl (.slice (some ⟨w.heap.size, 0, none⟩) 0 0) w.heap.size rfl (Own.empty (Nat.le_refl _)) (some ad) l.length c rfl rfl ((hA.bl ((Bl.refl _).alloc _)).source flatBool) ?c1 ?c2 ?c3 ?_
                 case c1 => simp only [List.length_nil, maxLen]; omega
                 case c2 => simp only [List.length_nil]; omega
                 case c3 => simp
                 intro v1 w1 hown hg _)
    go_ret
    have hbl := ((Bl.refl w).alloc _).app (Own.empty (C := cBool) (e := 4) (Nat.le_refl _)) (Nat.le_refl _) hg
    simp only [List.nil_append] at hown
    obtain ⟨A', c', rfl, hr, h1, h2⟩ := hown.reads
    exact ⟨A', c', rfl, h1, h2, hr, hbl⟩

theorem R.set {α : Type} {C : Codec α} {lo : Nat} {w : World} {A : Option Addr} {xs : List α} (h : R C lo w A xs) {p : Addr} (hp : p.block < lo) (u : Value) : R C lo (w.setCell p u) A xs :=
  RS.keep h (fun b hb => Below.heap_setCell w p u b (by have := hb.1; omega)) fun b hb => ⟨hb.1, by simpa [World.setCell] using hb.2⟩

def smallE (x : Entry) : Prop := smallC x.snap ∧ x.got.length ≤ 1048576

/-- What a call that hands back an entry in memory of its own says. -/
def NewEntry (x : Entry) (w : World) (e : Ending) (w' : World) : Prop := ∃ A c B d, e = .returned (.agg #[.int .u32 x.id.t, .int .u8 x.id.r, .bool x.ready, .bool x.pin, .int .i64 x.used, .bool x.known, .slice A x.snap.length c, .slice B x.got.length d]) ∧ x.snap.length ≤ c ∧ c ≤ maxLen ∧ x.got.length ≤ d ∧ d ≤ maxLen ∧ R cTimes w.heap.size w' A x.snap ∧ R cBool w.heap.size w' B x.got ∧ Bl w w'

set_option maxRecDepth 100000 in
set_option maxHeartbeats 2000000 in
theorem shelfOwn (x : Entry) (A B : Option Addr) (c d : Nat) (w : World) (hs : smallE x) (hA : R cTimes 0 w A x.snap) (hB : R cBool 0 w B x.got) :
    Calls Tryz.prog 91 #[.agg #[.int .u32 x.id.t, .int .u8 x.id.r, .bool x.ready, .bool x.pin, .int .i64 x.used, .bool x.known, .slice A x.snap.length c, .slice B x.got.length d]] w (NewEntry x w) := by
  obtain ⟨hs1, hs2⟩ := hs
  go_enter Tryz.func91, Tryz.ntmps91
  go_wp2
  obtain ⟨W, hW⟩ : ∃ W, W = (w.alloc (Obj.cells #[Value.int IntKind.u32 x.id.t, Value.int IntKind.u8 x.id.r, Value.bool x.ready, Value.bool x.pin, Value.int IntKind.i64 x.used, Value.bool x.known, Value.slice A x.snap.length c, Value.slice B x.got.length d] 62)).alloc (Obj.cells #[Value.int IntKind.u32 0, Value.int IntKind.u8 0, Value.bool false, Value.bool false, Value.int IntKind.i64 0, Value.bool false, Value.slice none 0 0, Value.slice none 0 0] 62) := ⟨_, rfl⟩
  rw [← hW]
  have hblW : Bl w W := by rw [hW]; exact ((Bl.refl _).alloc _).alloc _
  have hz0 : w.heap.size < W.heap.size := by rw [hW]; simp; omega
  have hz1 : w.heap.size + 1 < W.heap.size := by rw [hW]; simp
  have kA : ∀ V, Bl W V → V.cell? ⟨w.heap.size, 0, none⟩ = some (Value.int IntKind.u32 x.id.t) ∧ V.cell? ⟨w.heap.size, 1, none⟩ = some (Value.int IntKind.u8 x.id.r) ∧ V.cell? ⟨w.heap.size, 2, none⟩ = some (Value.bool x.ready) ∧ V.cell? ⟨w.heap.size, 3, none⟩ = some (Value.bool x.pin) ∧ V.cell? ⟨w.heap.size, 4, none⟩ = some (Value.int IntKind.i64 x.used) ∧ V.cell? ⟨w.heap.size, 5, none⟩ = some (Value.bool x.known) ∧ V.cell? ⟨w.heap.size, 6, none⟩ = some (Value.slice A x.snap.length c) ∧ V.cell? ⟨w.heap.size, 7, none⟩ = some (Value.slice B x.got.length d) ∧ V.cell? ⟨w.heap.size + 1, 0, none⟩ = some (Value.int IntKind.u32 0) ∧ V.cell? ⟨w.heap.size + 1, 1, none⟩ = some (Value.int IntKind.u8 0) ∧ V.cell? ⟨w.heap.size + 1, 2, none⟩ = some (Value.bool false) ∧ V.cell? ⟨w.heap.size + 1, 3, none⟩ = some (Value.bool false) ∧ V.cell? ⟨w.heap.size + 1, 4, none⟩ = some (Value.int IntKind.i64 0) ∧ V.cell? ⟨w.heap.size + 1, 5, none⟩ = some (Value.bool false) ∧ V.cell? ⟨w.heap.size + 1, 6, none⟩ = some (Value.slice none 0 0) ∧ V.cell? ⟨w.heap.size + 1, 7, none⟩ = some (Value.slice none 0 0) ∧ (∀ o, V.frozen? ⟨w.heap.size, o, none⟩ = false) ∧ (∀ o, V.frozen? ⟨w.heap.size + 1, o, none⟩ = false) := by
    intro V hV
    refine ⟨(hV.cell hz0).trans (by rw [hW]; simp), (hV.cell hz0).trans (by rw [hW]; simp), (hV.cell hz0).trans (by rw [hW]; simp), (hV.cell hz0).trans (by rw [hW]; simp), (hV.cell hz0).trans (by rw [hW]; simp), (hV.cell hz0).trans (by rw [hW]; simp), (hV.cell hz0).trans (by rw [hW]; simp), (hV.cell hz0).trans (by rw [hW]; simp), (hV.cell hz1).trans (by rw [hW]; simp), (hV.cell hz1).trans (by rw [hW]; simp), (hV.cell hz1).trans (by rw [hW]; simp), (hV.cell hz1).trans (by rw [hW]; simp), (hV.cell hz1).trans (by rw [hW]; simp), (hV.cell hz1).trans (by rw [hW]; simp), (hV.cell hz1).trans (by rw [hW]; simp), (hV.cell hz1).trans (by rw [hW]; simp), fun o => (hV.frozen hz0).trans (by rw [hW]; exact (((Bl.refl _).alloc _).frozen (by simp)).trans (frozen_new _ _ _ _)), fun o => (hV.frozen hz1).trans (by rw [hW]; have := frozen_new (w.alloc (Obj.cells #[Value.int IntKind.u32 x.id.t, Value.int IntKind.u8 x.id.r, Value.bool x.ready, Value.bool x.pin, Value.int IntKind.i64 x.used, Value.bool x.known, Value.slice A x.snap.length c, Value.slice B x.got.length d] 62)) #[Value.int IntKind.u32 0, Value.int IntKind.u8 0, Value.bool false, Value.bool false, Value.int IntKind.i64 0, Value.bool false, Value.slice none 0 0, Value.slice none 0 0] 62 o; rwa [World.size_alloc] at this)⟩
  replace kA := hide kA
  clear hW
  obtain ⟨p0, p1, p2, p3, p4, p5, p6, p7, pz0, pz1, pz2, pz3, pz4, pz5, pz6, pz7, pf, pg⟩ := kA.out W (Bl.refl _)
  go_region_with (first
    | (go_at_call 150; refine (clockTwin A c x.snap _ hs1 (hA.bl hblW.drew)).mono ?_; rintro e w1 ⟨A1, c1, rfl, h1, h2, hr1, hb0⟩; have hb1 : Bl W w1 := (Bl.refl W).drew.trans hb0; clear hb0; obtain ⟨q0, q1, q2, q3, q4, q5, q6, q7, qz0, qz1, qz2, qz3, qz4, qz5, qz6, qz7, qf, qg⟩ := kA.out w1 hb1)
    | (go_at_call 151; refine (boolClone B d x.got _ hs2 (hB.bl (hblW.trans hb1))).mono ?_; rintro e w2 ⟨B1, d1, rfl, h3, h4, hr2, hb2⟩; obtain ⟨r0, r1, r2, r3, r4, r5, r6, r7, rz0, rz1, rz2, rz3, rz4, rz5, rz6, rz7, rf, rg⟩ := kA.out w2 (hb1.trans hb2)))
  all_goals
    go_wp2
  all_goals
    refine bodyPost_ret (v := .agg #[.int .u32 x.id.t, .int .u8 x.id.r, .bool x.ready, .bool x.pin, .int .i64 x.used, .bool x.known, .slice A1 x.snap.length c1, .slice B1 x.got.length d1]) (by simp [results, Tryz.results91, go_sem, rz0, rz1, rz2, rz3, rz4, rz5, rz6, rz7]) rfl ?_
    have hW1 : W.heap.size ≤ w1.heap.size := hb1.size
    have r1 := hr1.bl hb2
    replace r1 : R cTimes W.heap.size w2 A1 x.snap := r1
    replace hr2 : R cBool W.heap.size w2 B1 x.got := hr2.more hW1
    refine ⟨A1, c1, B1, d1, rfl, h1, h2, h3, h4, ?_, ?_, ?_⟩
    · refine R.more (lo := W.heap.size) ?_ hblW.size
      repeat (refine R.set ?_ (by first | exact hz0 | exact hz1) _)
      exact r1
    · refine R.more (lo := W.heap.size) ?_ hblW.size
      repeat (refine R.set ?_ (by first | exact hz0 | exact hz1) _)
      exact hr2
    · repeat (refine Bl.setCell ?_ (by simp) _)
      exact (hblW.trans hb1).trans hb2

end Go.Proofs.YteoodmilcpmmpaaGreat

namespace Go.Proofs.YteoodmilcpmmpaaGreat

open Go.RowKit

theorem cell_set_other {w : World} {b o b' o' : Nat} {u v : Value} (h : (⟨b', o', none⟩ : Addr) ≠ ⟨b, o, none⟩) (hc : w.cell? ⟨b', o', none⟩ = some v) : (w.setCell ⟨b, o, none⟩ u).cell? ⟨b', o', none⟩ = some v :=
  (World.cell?_setCell_other w _ _ u (fun e => h e.symm)).trans hc

theorem cell_set_same {w : World} {b o : Nat} {u v : Value} (hc : w.cell? ⟨b, o, none⟩ = some v) : (w.setCell ⟨b, o, none⟩ u).cell? ⟨b, o, none⟩ = some u :=
  World.cell?_setCell_same' _ _ _ (by rw [hc]; rfl)

def smallS (l : List Entry) : Prop := l.length ≤ 1048576 ∧ ∀ x ∈ l, smallE x

theorem Tryz.infoEntry : (Tryz.prog.info? 62).map (fun i => (i.zero, i.size, i.bytes)) = some (some (.agg #[.int .u32 0, .int .u8 0, .bool false, .bool false, .int .i64 0, .bool false, .slice none 0 0, .slice none 0 0]), 8, 80) := by kernel_rfl

set_option maxRecDepth 100000 in
set_option maxHeartbeats 1000000 in
theorem shelfTwin (A : Option Addr) (c : Nat) (l : List Entry) (w : World) (hl : smallS l) (hA : R cEntry 0 w A l) :
    Calls Tryz.prog 75 #[.slice A l.length c] w (New cEntry l w) := by
  obtain ⟨i0, hi, hz0, hz1, hz2⟩ := info_parts Tryz.infoEntry
  obtain ⟨hl, hsm⟩ := hl
  replace hsm := hide hsm
  go_enter Tryz.func75, Tryz.ntmps75
  go_wp2
  go_loopw [2, 7] (fun v i wr => Bl w wr ∧ ∃ k : Nat, k ≤ l.length ∧ i = .int .i64 k ∧ Own cEntry 62 w.heap.size wr v (l.take k)) (fun _ i _ => l.length - (intOf i).toNat)
  case atStart => exact ⟨Bl.refl _, 0, Nat.zero_le _, rfl, Own.nil⟩
  case round =>
    obtain ⟨hbl, k, hk, rfl, hown⟩ := hrel
    by_cases hlt : k < l.length
    · have hR := hA.bl hbl
      obtain ⟨b, off, rfl, _, hb⟩ := hR.addr (by omega)
      obtain ⟨x, hx⟩ := get_lt hlt
      obtain ⟨_, ho, S, sc, G, gc, s1, s2, g1, g2, hS, hG, c0, c1, c2, c3, c4, c5, c6, c7⟩ := hR.entry hx
      have hts := hide (take_snoc hx)
      have hxs := hsm.out x (List.mem_of_getElem? hx)
      clear hx
      go_wp2_with (first
        | (go_at_call 91; refine (shelfOwn x S G sc gc _ hxs (hS.bl ((Bl.refl _).alloc _)) (hG.bl ((Bl.refl _).alloc _))).mono ?_; rintro e w1 ⟨A1, c1', B1, d1, rfl, h1, h2, h3, h4, hr1, hr2, hb0⟩; have hb1 := ((Bl.refl wr).alloc _).trans hb0; have hW1 : wr.heap.size ≤ w1.heap.size := hb1.size; have hsz := hbl.size)
        | (at_builtin
           refine wpList_append_any2 (C := cEntry) (xs := l.take k) (ys := [x]) rfl (.tmp 11) (.tmp 14) _ rfl 62 i0 _ 80 Tryz.underlying56 hi hz0 hz1 hz2 rfl _ w.heap.size rfl ((hown.bl hb1).bl ((Bl.refl _).alloc _)) (some ⟨w1.heap.size, 0, none⟩) 1 _ rfl rfl (hown.src (cs := entryCells x A1 c1' B1 d1) hb1 hsz ⟨ho, A1, c1', B1, d1, h1, h2, h3, h4, rfl, hr1.more (by simp), hr2.more (by simp)⟩) ?c1 ?c2 ?c3 ?_
           case c1 => simp [maxLen]; omega
           case c2 => simp; omega
           case c3 => simp; omega
           intro v2 w2 hown2 hg2 _
           have hbl2 : Bl w w2 := ((hbl.trans hb1).alloc _).app ((hown.bl hb1).bl ((Bl.refl _).alloc _)) (Nat.le_refl _) hg2))
      go_roundw
      case rel => exact ⟨hbl2, k + 1, by omega, by go_num, by rw [hts.out]; exact hown2⟩
      case measure => simp [intOf]; omega
    · have hkl : l.length ≤ k := by omega
      go_wp2
      go_ret
      rw [List.take_of_length_le hkl] at hown
      obtain ⟨A', c', rfl, hr, h1, h2⟩ := hown.reads
      exact ⟨A', c', rfl, h1, h2, hr, hbl⟩

set_option maxRecDepth 100000 in
set_option maxHeartbeats 1000000 in
theorem refOwn19 (x : Entry) (A B : Option Addr) (c d : Nat) (w : World) (hs : smallE x) (hA : R cTimes 0 w A x.snap) (hB : R cBool 0 w B x.got) :
    Calls Tryz.prog 80 #[.agg #[.int .u32 x.id.t, .int .u8 x.id.r, .bool x.ready, .bool x.pin, .int .i64 x.used, .bool x.known, .slice A x.snap.length c, .slice B x.got.length d]] w (NewEntry x w) := by
  obtain ⟨hs1, hs2⟩ := hs
  obtain ⟨i0, hi, iz0, iz1, iz2⟩ := info_parts Tryz.infoBool
  go_enter Tryz.func80, Tryz.ntmps80
  go_wp2_with fail
  obtain ⟨W, hW⟩ : ∃ W, W = (w.alloc (Obj.cells #[Value.int IntKind.u32 x.id.t, Value.int IntKind.u8 x.id.r, Value.bool x.ready, Value.bool x.pin, Value.int IntKind.i64 x.used, Value.bool x.known, Value.slice A x.snap.length c, Value.slice B x.got.length d] 62)).alloc (Obj.cells #[Value.int IntKind.u32 0, Value.int IntKind.u8 0, Value.bool false, Value.bool false, Value.int IntKind.i64 0, Value.bool false, Value.slice none 0 0, Value.slice none 0 0] 62) := ⟨_, rfl⟩
  rw [← hW]
  have hblW : Bl w W := by rw [hW]; exact ((Bl.refl _).alloc _).alloc _
  have hz0 : w.heap.size < W.heap.size := by rw [hW]; simp; omega
  have hz1 : w.heap.size + 1 < W.heap.size := by rw [hW]; simp
  have kA : ∀ V, Bl W V → V.cell? ⟨w.heap.size, 0, none⟩ = some (Value.int IntKind.u32 x.id.t) ∧ V.cell? ⟨w.heap.size, 1, none⟩ = some (Value.int IntKind.u8 x.id.r) ∧ V.cell? ⟨w.heap.size, 2, none⟩ = some (Value.bool x.ready) ∧ V.cell? ⟨w.heap.size, 3, none⟩ = some (Value.bool x.pin) ∧ V.cell? ⟨w.heap.size, 4, none⟩ = some (Value.int IntKind.i64 x.used) ∧ V.cell? ⟨w.heap.size, 5, none⟩ = some (Value.bool x.known) ∧ V.cell? ⟨w.heap.size, 6, none⟩ = some (Value.slice A x.snap.length c) ∧ V.cell? ⟨w.heap.size, 7, none⟩ = some (Value.slice B x.got.length d) ∧ V.cell? ⟨w.heap.size + 1, 0, none⟩ = some (Value.int IntKind.u32 0) ∧ V.cell? ⟨w.heap.size + 1, 1, none⟩ = some (Value.int IntKind.u8 0) ∧ V.cell? ⟨w.heap.size + 1, 2, none⟩ = some (Value.bool false) ∧ V.cell? ⟨w.heap.size + 1, 3, none⟩ = some (Value.bool false) ∧ V.cell? ⟨w.heap.size + 1, 4, none⟩ = some (Value.int IntKind.i64 0) ∧ V.cell? ⟨w.heap.size + 1, 5, none⟩ = some (Value.bool false) ∧ V.cell? ⟨w.heap.size + 1, 6, none⟩ = some (Value.slice none 0 0) ∧ V.cell? ⟨w.heap.size + 1, 7, none⟩ = some (Value.slice none 0 0) ∧ (∀ o, V.frozen? ⟨w.heap.size, o, none⟩ = false) ∧ (∀ o, V.frozen? ⟨w.heap.size + 1, o, none⟩ = false) := by
    intro V hV
    refine ⟨(hV.cell hz0).trans (by rw [hW]; simp), (hV.cell hz0).trans (by rw [hW]; simp), (hV.cell hz0).trans (by rw [hW]; simp), (hV.cell hz0).trans (by rw [hW]; simp), (hV.cell hz0).trans (by rw [hW]; simp), (hV.cell hz0).trans (by rw [hW]; simp), (hV.cell hz0).trans (by rw [hW]; simp), (hV.cell hz0).trans (by rw [hW]; simp), (hV.cell hz1).trans (by rw [hW]; simp), (hV.cell hz1).trans (by rw [hW]; simp), (hV.cell hz1).trans (by rw [hW]; simp), (hV.cell hz1).trans (by rw [hW]; simp), (hV.cell hz1).trans (by rw [hW]; simp), (hV.cell hz1).trans (by rw [hW]; simp), (hV.cell hz1).trans (by rw [hW]; simp), (hV.cell hz1).trans (by rw [hW]; simp), fun o => (hV.frozen hz0).trans (by rw [hW]; exact (((Bl.refl _).alloc _).frozen (by simp)).trans (frozen_new _ _ _ _)), fun o => (hV.frozen hz1).trans (by rw [hW]; have := frozen_new (w.alloc (Obj.cells #[Value.int IntKind.u32 x.id.t, Value.int IntKind.u8 x.id.r, Value.bool x.ready, Value.bool x.pin, Value.int IntKind.i64 x.used, Value.bool x.known, Value.slice A x.snap.length c, Value.slice B x.got.length d] 62)) #[Value.int IntKind.u32 0, Value.int IntKind.u8 0, Value.bool false, Value.bool false, Value.int IntKind.i64 0, Value.bool false, Value.slice none 0 0, Value.slice none 0 0] 62 o; rwa [World.size_alloc] at this)⟩
  replace kA := hide kA
  clear hW
  obtain ⟨p0, p1, p2, p3, p4, p5, p6, p7, pz0, pz1, pz2, pz3, pz4, pz5, pz6, pz7, pf, pg⟩ := kA.out W (Bl.refl _)
  refine (refTwin08 A c x.snap _ hs1 (hA.bl hblW)).mono ?_
  rintro e w1 ⟨A1, c1, rfl, h1, h2, hr1, hb1⟩
  obtain ⟨q0, q1, q2, q3, q4, q5, q6, q7, qz0, qz1, qz2, qz3, qz4, qz5, qz6, qz7, qf, qg⟩ := kA.out w1 hb1
  have hz2' : W.heap.size ≤ w1.heap.size := hb1.size
  have hbw := hblW.trans hb1
  have hbw2 : Bl w (w1.setCell ⟨w.heap.size, 6, none⟩ (Value.slice A1 x.snap.length c1)) := hbw.setCell (Nat.le_refl _) _
  go_wp2_with (at_builtin
               refine wpList_append_any2 (C := cBool) (xs := []) (ys := x.got) rfl (.tmp 8) (.tmp 10) _ rfl 4 i0 _ 1 Tryz.underlying60 hi iz0 iz1 iz2 rfl (.slice none 0 0) W.heap.size rfl Own.nil B x.got.length d rfl rfl ((hB.bl hbw2).source flatBool) ?c1 ?c2 ?c3 ?_
               case c1 => simp only [List.length_nil, maxLen]; omega
               case c2 => simp only [List.length_nil]; omega
               case c3 => rw [World.size_setCell]; omega
               intro v3 w3 hown hg _
               have hb3 := (Bl.refl _).grown hg
               replace hown : Own cBool 4 W.heap.size w3 v3 x.got := hown
               obtain ⟨B1, d1, rfl, hr2, h3, h4⟩ := hown.reads
               have t0 : w3.cell? ⟨w.heap.size, 0, none⟩ = some (Value.int IntKind.u32 x.id.t) := (hb3.cell (by rw [World.size_setCell]; omega)).trans (cell_set_other (by simp) q0)
               have t1 : w3.cell? ⟨w.heap.size, 1, none⟩ = some (Value.int IntKind.u8 x.id.r) := (hb3.cell (by rw [World.size_setCell]; omega)).trans (cell_set_other (by simp) q1)
               have t2 : w3.cell? ⟨w.heap.size, 2, none⟩ = some (Value.bool x.ready) := (hb3.cell (by rw [World.size_setCell]; omega)).trans (cell_set_other (by simp) q2)
               have t3 : w3.cell? ⟨w.heap.size, 3, none⟩ = some (Value.bool x.pin) := (hb3.cell (by rw [World.size_setCell]; omega)).trans (cell_set_other (by simp) q3)
               have t4 : w3.cell? ⟨w.heap.size, 4, none⟩ = some (Value.int IntKind.i64 x.used) := (hb3.cell (by rw [World.size_setCell]; omega)).trans (cell_set_other (by simp) q4)
               have t5 : w3.cell? ⟨w.heap.size, 5, none⟩ = some (Value.bool x.known) := (hb3.cell (by rw [World.size_setCell]; omega)).trans (cell_set_other (by simp) q5)
               have t6 : w3.cell? ⟨w.heap.size, 6, none⟩ = some (Value.slice A1 x.snap.length c1) := (hb3.cell (by rw [World.size_setCell]; omega)).trans (cell_set_same q6)
               have t7 : w3.cell? ⟨w.heap.size, 7, none⟩ = some (Value.slice B x.got.length d) := (hb3.cell (by rw [World.size_setCell]; omega)).trans (cell_set_other (by simp) q7)
               have tz0 : w3.cell? ⟨w.heap.size + 1, 0, none⟩ = some (Value.int IntKind.u32 0) := (hb3.cell (by rw [World.size_setCell]; omega)).trans (cell_set_other (by simp) qz0)
               have tz1 : w3.cell? ⟨w.heap.size + 1, 1, none⟩ = some (Value.int IntKind.u8 0) := (hb3.cell (by rw [World.size_setCell]; omega)).trans (cell_set_other (by simp) qz1)
               have tz2 : w3.cell? ⟨w.heap.size + 1, 2, none⟩ = some (Value.bool false) := (hb3.cell (by rw [World.size_setCell]; omega)).trans (cell_set_other (by simp) qz2)
               have tz3 : w3.cell? ⟨w.heap.size + 1, 3, none⟩ = some (Value.bool false) := (hb3.cell (by rw [World.size_setCell]; omega)).trans (cell_set_other (by simp) qz3)
               have tz4 : w3.cell? ⟨w.heap.size + 1, 4, none⟩ = some (Value.int IntKind.i64 0) := (hb3.cell (by rw [World.size_setCell]; omega)).trans (cell_set_other (by simp) qz4)
               have tz5 : w3.cell? ⟨w.heap.size + 1, 5, none⟩ = some (Value.bool false) := (hb3.cell (by rw [World.size_setCell]; omega)).trans (cell_set_other (by simp) qz5)
               have tz6 : w3.cell? ⟨w.heap.size + 1, 6, none⟩ = some (Value.slice none 0 0) := (hb3.cell (by rw [World.size_setCell]; omega)).trans (cell_set_other (by simp) qz6)
               have tz7 : w3.cell? ⟨w.heap.size + 1, 7, none⟩ = some (Value.slice none 0 0) := (hb3.cell (by rw [World.size_setCell]; omega)).trans (cell_set_other (by simp) qz7)
               have tf : ∀ o, w3.frozen? ⟨w.heap.size, o, none⟩ = false := fun o => (hb3.frozen (by rw [World.size_setCell]; omega)).trans (by rw [World.frozen?_setCell]; exact qf o)
               have tg : ∀ o, w3.frozen? ⟨w.heap.size + 1, o, none⟩ = false := fun o => (hb3.frozen (by rw [World.size_setCell]; omega)).trans (by rw [World.frozen?_setCell]; exact qg o))
  refine bodyPost_ret (v := .agg #[.int .u32 x.id.t, .int .u8 x.id.r, .bool x.ready, .bool x.pin, .int .i64 x.used, .bool x.known, .slice A1 x.snap.length c1, .slice B1 x.got.length d1]) (by simp [results, Tryz.results80, go_sem, tz0, tz1, tz2, tz3, tz4, tz5, tz6, tz7]) rfl ?_
  have r1 : R cTimes W.heap.size w3 A1 x.snap := (hr1.set (p := ⟨w.heap.size, 6, none⟩) hz0 _).bl hb3
  refine ⟨A1, c1, B1, d1, rfl, h1, h2, h3, h4, ?_, ?_, ?_⟩
  · refine R.more (lo := W.heap.size) ?_ hblW.size
    repeat (refine R.set ?_ (by first | exact hz0 | exact hz1) _)
    exact r1
  · refine R.more (lo := W.heap.size) ?_ hblW.size
    repeat (refine R.set ?_ (by first | exact hz0 | exact hz1) _)
    exact hr2
  · repeat (refine Bl.setCell ?_ (by simp) _)
    exact hbw2.trans hb3

set_option maxRecDepth 100000 in
set_option maxHeartbeats 1000000 in
theorem refTwin19 (A : Option Addr) (c : Nat) (l : List Entry) (w : World) (hl : smallS l) (hA : R cEntry 0 w A l) :
    Calls Tryz.prog 29 #[.slice A l.length c] w (New cEntry l w) := by
  obtain ⟨i0, hi, hz0, hz1, hz2⟩ := info_parts Tryz.infoEntry
  obtain ⟨hl, hsm⟩ := hl
  replace hsm := hide hsm
  go_enter Tryz.func29, Tryz.ntmps29
  go_wp2
  go_loopw [3, 4] (fun v i wr => Bl w wr ∧ ∃ k : Nat, k ≤ l.length ∧ i = .int .i64 k ∧ Own cEntry 62 w.heap.size wr v (l.take k)) (fun _ i _ => l.length - (intOf i).toNat)
  case atStart => exact ⟨Bl.refl _, 0, Nat.zero_le _, rfl, Own.nil⟩
  case round =>
    obtain ⟨hbl, k, hk, rfl, hown⟩ := hrel
    by_cases hlt : k < l.length
    · have hR := hA.bl hbl
      obtain ⟨b, off, rfl, _, hb⟩ := hR.addr (by omega)
      obtain ⟨x, hx⟩ := get_lt hlt
      obtain ⟨_, ho, S, sc, G, gc, s1, s2, g1, g2, hS, hG, c0, c1, c2, c3, c4, c5, c6, c7⟩ := hR.entry hx
      have hts := hide (take_snoc hx)
      have hxs := hsm.out x (List.mem_of_getElem? hx)
      clear hx
      go_wp2_with (first
        | (go_at_call 80; refine (refOwn19 x S G sc gc _ hxs hS hG).mono ?_; rintro e w1 ⟨A1, c1', B1, d1, rfl, h1, h2, h3, h4, hr1, hr2, hb1⟩; have hW1 : wr.heap.size ≤ w1.heap.size := hb1.size; have hsz := hbl.size)
        | (at_builtin
           refine wpList_append_any2 (C := cEntry) (xs := l.take k) (ys := [x]) rfl (.tmp 11) (.tmp 17) _ rfl 62 i0 _ 80 Tryz.underlying56 hi hz0 hz1 hz2 rfl _ w.heap.size rfl ((hown.bl hb1).bl ((Bl.refl _).alloc _)) (some ⟨w1.heap.size, 0, none⟩) 1 _ rfl rfl (hown.src (cs := entryCells x A1 c1' B1 d1) hb1 hsz ⟨ho, A1, c1', B1, d1, h1, h2, h3, h4, rfl, hr1, hr2⟩) ?c1 ?c2 ?c3 ?_
           case c1 => simp [maxLen]; omega
           case c2 => simp; omega
           case c3 => simp; omega
           intro v2 w2 hown2 hg2 _
           have hbl2 : Bl w w2 := ((hbl.trans hb1).alloc _).app ((hown.bl hb1).bl ((Bl.refl _).alloc _)) (Nat.le_refl _) hg2))
      go_roundw
      case rel => exact ⟨hbl2, k + 1, by omega, by go_num, by rw [hts.out]; exact hown2⟩
      case measure => simp [intOf]; omega
    · have hkl : l.length ≤ k := by omega
      go_wp2
      go_ret
      rw [List.take_of_length_le hkl] at hown
      obtain ⟨A', c', rfl, hr, h1, h2⟩ := hown.reads
      exact ⟨A', c', rfl, h1, h2, hr, hbl⟩

end Go.Proofs.YteoodmilcpmmpaaGreat

namespace Go.Proofs.YteoodmilcpmmpaaGreat

open Go.RowKit

theorem small_of_may {x : Entry} (h : entryMay x = true) : smallE x := by
  unfold entryMay at h
  rw [Bool.and_eq_true] at h
  have h := h.2
  unfold entryTail at h
  cases hk : x.known
  · rw [hk] at h
    simp at h
    obtain ⟨h1, h2⟩ := h
    refine ⟨⟨by rw [h1]; simp, by rw [h1]; simp⟩, by rw [h2]; simp⟩
  · rw [hk] at h
    simp only [if_true, Bool.and_eq_true, decide_eq_true_eq] at h
    obtain ⟨⟨⟨_, hm⟩, hn⟩, hg⟩ := h
    have hall := clockFrom_all _ (show clockFrom (-1) x.snap = true from hm)
    have hlen := clockMay_length hm
    refine ⟨⟨by omega, fun y hy => ?_⟩, by omega⟩
    have := hall y hy
    unfold spansMay at this
    simp only [Bool.and_eq_true, decide_eq_true_eq] at this
    omega

def zeroE : Entry := ⟨⟨0, 0⟩, false, false, 0, false, [], []⟩

end Go.Proofs.YteoodmilcpmmpaaGreat

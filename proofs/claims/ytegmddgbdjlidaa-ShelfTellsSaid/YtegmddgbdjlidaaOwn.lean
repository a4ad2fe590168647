/-
  The walks of shelf.own, shelf.Twin, and of the references'.
-/
import Derived.Test.YtegmddgbdjlidaaShelfCheck
import Derived.Test.YtegmddgbdjlidaaRefClock2
namespace Go.Proofs.Ytegmddgbdjlidaa
open Go.RowKit

theorem flatBool : ∀ {w : World} {S : Nat → Prop} {x : Bool} {cs : List Value}, cBool.rd w S x cs → ∀ S', cBool.rd w S' x cs := fun h _ => h
theorem Try.infoBool : (Try.prog.info? 4).map (fun i => (i.zero, i.size, i.bytes)) = some (some (.bool false), 1, 1) := by kernel_rfl

set_option maxHeartbeats 400000 in
theorem boolClone (A : Option Addr) (c : Nat) (l : List Bool) (w : World) (hl : l.length ≤ 1048576) (hA : R cBool 0 w A l) :
    Calls Try.prog 80 #[.slice A l.length c] w (New cBool l w) := by
  obtain ⟨i0, hi, hz0, hz1, hz2⟩ := info_parts Try.infoBool
  have hnil := fun (W : World) (a : Option Addr) (n c : Nat) => Lib.run_eql_slice_nil (P := Try.prog) W 29 4 a n c 0 0 Try.underlying29
  have hl : l.length ≤ 9223372036854775807 := by omega
  cases A with
  | none =>
    obtain ⟨_, _, _, h0⟩ := hA.all
    obtain rfl := h0 rfl
    go_enter Try.func80, Try.ntmps80
    go_wp2
    go_ret
    exact ⟨none, 0, rfl, Nat.le_refl _, by unfold maxLen; omega, R.nil, Bl.refl _⟩
  | some ad =>
    go_enter Try.func80, Try.ntmps80
    go_wp2_with (at_builtin
                 refine wpList_append_any2 (C := cBool) (xs := []) (ys := l) rfl (.tmp 5) (.tmp 6) _ rfl 4 i0 _ 1 Try.underlying29 hi hz0 hz1 hz2 rfl (.slice (some ⟨w.heap.size, 0, none⟩) 0 0) w.heap.size rfl (Own.empty (Nat.le_refl _)) (some ad) l.length c rfl rfl ((hA.bl ((Bl.refl _).alloc _)).source flatBool) ?c1 ?c2 ?c3 ?_
                 case c1 => simp only [List.length_nil, maxLen]; omega
                 case c2 => simp only [List.length_nil]; omega
                 case c3 => simp
                 intro v1 w1 hown hg _)
    go_ret
    have hbl := ((Bl.refl w).alloc _).app (Own.empty (C := cBool) (e := 4) (Nat.le_refl _)) (Nat.le_refl _) hg
    simp only [List.nil_append] at hown
    obtain ⟨A', c', rfl, hr, h1, h2⟩ := hown.reads
    exact ⟨A', c', rfl, h1, h2, hr, hbl⟩

theorem R.set {α : Type} {C : Codec α} {lo : Nat} {w : World} {A : Option Addr} {xs : List α} (h : R C lo w A xs) {p : Addr} (hp : p.block < lo) (u : Value) : R C lo (w.setCell p u) A xs :=
  RS.keep h (fun b hb => Below.heap_setCell w p u b (by have := hb.1; omega)) fun b hb => ⟨hb.1, by simpa [World.setCell] using hb.2⟩

theorem frozen_new (w : World) (cs : Array Value) (t : TypeId) (o : Nat) : (w.alloc (.cells cs t)).frozen? ⟨w.heap.size, o, none⟩ = false := by
  have := heap_alloc_new w (.cells cs t)
  simp only [World.frozen?, this]
  simp

def smallE (x : Entry) : Prop := smallC x.snap ∧ x.got.length ≤ 1048576
/-- What a call that hands back an entry in memory of its own says. -/
def NewEntry (x : Entry) (w : World) (e : Ending) (w' : World) : Prop := ∃ A c B d, e = .returned (.agg #[.int .u32 x.id.t, .int .u8 x.id.r, .bool x.ready, .bool x.pin, .int .i64 x.used, .bool x.known, .slice A x.snap.length c, .slice B x.got.length d]) ∧ x.snap.length ≤ c ∧ c ≤ maxLen ∧ x.got.length ≤ d ∧ d ≤ maxLen ∧ R cTimes w.heap.size w' A x.snap ∧ R cBool w.heap.size w' B x.got ∧ Bl w w'

set_option maxRecDepth 100000 in
set_option maxHeartbeats 2000000 in
theorem shelfOwn (x : Entry) (A B : Option Addr) (c d : Nat) (w : World) (hs : smallE x) (hA : R cTimes 0 w A x.snap) (hB : R cBool 0 w B x.got) :
    Calls Try.prog 47 #[.agg #[.int .u32 x.id.t, .int .u8 x.id.r, .bool x.ready, .bool x.pin, .int .i64 x.used, .bool x.known, .slice A x.snap.length c, .slice B x.got.length d]] w (NewEntry x w) := by
  obtain ⟨hs1, hs2⟩ := hs
  go_enter Try.func47, Try.ntmps47
  go_wp2
  obtain ⟨W, hW⟩ : ∃ W, W = (w.alloc (Obj.cells #[Value.int IntKind.u32 x.id.t, Value.int IntKind.u8 x.id.r, Value.bool x.ready, Value.bool x.pin, Value.int IntKind.i64 x.used, Value.bool x.known, Value.slice A x.snap.length c, Value.slice B x.got.length d] 31)).alloc (Obj.cells #[Value.int IntKind.u32 0, Value.int IntKind.u8 0, Value.bool false, Value.bool false, Value.int IntKind.i64 0, Value.bool false, Value.slice none 0 0, Value.slice none 0 0] 31) := ⟨_, rfl⟩
  rw [← hW]
  have hblW : Bl w W := by rw [hW]; exact ((Bl.refl _).alloc _).alloc _
  have hz0 : w.heap.size < W.heap.size := by rw [hW]; simp; omega
  have hz1 : w.heap.size + 1 < W.heap.size := by rw [hW]; simp
  have kA : ∀ V, Bl W V → V.cell? ⟨w.heap.size, 0, none⟩ = some (Value.int IntKind.u32 x.id.t) ∧ V.cell? ⟨w.heap.size, 1, none⟩ = some (Value.int IntKind.u8 x.id.r) ∧ V.cell? ⟨w.heap.size, 2, none⟩ = some (Value.bool x.ready) ∧ V.cell? ⟨w.heap.size, 3, none⟩ = some (Value.bool x.pin) ∧ V.cell? ⟨w.heap.size, 4, none⟩ = some (Value.int IntKind.i64 x.used) ∧ V.cell? ⟨w.heap.size, 5, none⟩ = some (Value.bool x.known) ∧ V.cell? ⟨w.heap.size, 6, none⟩ = some (Value.slice A x.snap.length c) ∧ V.cell? ⟨w.heap.size, 7, none⟩ = some (Value.slice B x.got.length d) ∧ V.cell? ⟨w.heap.size + 1, 0, none⟩ = some (Value.int IntKind.u32 0) ∧ V.cell? ⟨w.heap.size + 1, 1, none⟩ = some (Value.int IntKind.u8 0) ∧ V.cell? ⟨w.heap.size + 1, 2, none⟩ = some (Value.bool false) ∧ V.cell? ⟨w.heap.size + 1, 3, none⟩ = some (Value.bool false) ∧ V.cell? ⟨w.heap.size + 1, 4, none⟩ = some (Value.int IntKind.i64 0) ∧ V.cell? ⟨w.heap.size + 1, 5, none⟩ = some (Value.bool false) ∧ V.cell? ⟨w.heap.size + 1, 6, none⟩ = some (Value.slice none 0 0) ∧ V.cell? ⟨w.heap.size + 1, 7, none⟩ = some (Value.slice none 0 0) ∧ (∀ o, V.frozen? ⟨w.heap.size, o, none⟩ = false) ∧ (∀ o, V.frozen? ⟨w.heap.size + 1, o, none⟩ = false) := by
    intro V hV
    refine ⟨(hV.cell hz0).trans (by rw [hW]; simp), (hV.cell hz0).trans (by rw [hW]; simp), (hV.cell hz0).trans (by rw [hW]; simp), (hV.cell hz0).trans (by rw [hW]; simp), (hV.cell hz0).trans (by rw [hW]; simp), (hV.cell hz0).trans (by rw [hW]; simp), (hV.cell hz0).trans (by rw [hW]; simp), (hV.cell hz0).trans (by rw [hW]; simp), (hV.cell hz1).trans (by rw [hW]; simp), (hV.cell hz1).trans (by rw [hW]; simp), (hV.cell hz1).trans (by rw [hW]; simp), (hV.cell hz1).trans (by rw [hW]; simp), (hV.cell hz1).trans (by rw [hW]; simp), (hV.cell hz1).trans (by rw [hW]; simp), (hV.cell hz1).trans (by rw [hW]; simp), (hV.cell hz1).trans (by rw [hW]; simp), fun o => (hV.frozen hz0).trans (by rw [hW]; exact (((Bl.refl _).alloc _).frozen (by simp)).trans (frozen_new _ _ _ _)), fun o => (hV.frozen hz1).trans (by rw [hW]; have := frozen_new (w.alloc (Obj.cells #[Value.int IntKind.u32 x.id.t, Value.int IntKind.u8 x.id.r, Value.bool x.ready, Value.bool x.pin, Value.int IntKind.i64 x.used, Value.bool x.known, Value.slice A x.snap.length c, Value.slice B x.got.length d] 31)) #[Value.int IntKind.u32 0, Value.int IntKind.u8 0, Value.bool false, Value.bool false, Value.int IntKind.i64 0, Value.bool false, Value.slice none 0 0, Value.slice none 0 0] 31 o; rwa [World.size_alloc] at this)⟩
  replace kA := hide kA
  clear hW
  obtain ⟨p0, p1, p2, p3, p4, p5, p6, p7, pz0, pz1, pz2, pz3, pz4, pz5, pz6, pz7, pf, pg⟩ := kA.out W (Bl.refl _)
  go_region_with (first
    | (go_at_call 59; refine (clockTwin A c x.snap _ hs1 (hA.bl hblW.drew)).mono ?_; rintro e w1 ⟨A1, c1, rfl, h1, h2, hr1, hb0⟩; have hb1 : Bl W w1 := (Bl.refl W).drew.trans hb0; clear hb0; obtain ⟨q0, q1, q2, q3, q4, q5, q6, q7, qz0, qz1, qz2, qz3, qz4, qz5, qz6, qz7, qf, qg⟩ := kA.out w1 hb1)
    | (go_at_call 80; refine (boolClone B d x.got _ hs2 (hB.bl (hblW.trans hb1))).mono ?_; rintro e w2 ⟨B1, d1, rfl, h3, h4, hr2, hb2⟩; obtain ⟨r0, r1, r2, r3, r4, r5, r6, r7, rz0, rz1, rz2, rz3, rz4, rz5, rz6, rz7, rf, rg⟩ := kA.out w2 (hb1.trans hb2)))
  all_goals
    go_wp2
  all_goals
    refine bodyPost_ret (v := .agg #[.int .u32 x.id.t, .int .u8 x.id.r, .bool x.ready, .bool x.pin, .int .i64 x.used, .bool x.known, .slice A1 x.snap.length c1, .slice B1 x.got.length d1]) (by simp [results, Try.results47, go_sem, rz0, rz1, rz2, rz3, rz4, rz5, rz6, rz7]) rfl ?_
    have hW1 : W.heap.size ≤ w1.heap.size := hb1.size
    have r1 := hr1.bl hb2
    replace r1 : R cTimes W.heap.size w2 A1 x.snap := r1
    replace hr2 : R cBool W.heap.size w2 B1 x.got := hr2.more hW1
    refine ⟨A1, c1, B1, d1, rfl, h1, h2, h3, h4, ?_, ?_, ?_⟩
    · refine R.more (lo := W.heap.size) ?_ hblW.size
      repeat (refine R.set ?_ (by first | exact hz0 | exact hz1) _)
      exact r1
    · refine R.more (lo := W.heap.size) ?_ hblW.size
      repeat (refine R.set ?_ (by first | exact hz0 | exact hz1) _)
      exact hr2
    · repeat (refine Bl.setCell ?_ (by simp) _)
      exact (hblW.trans hb1).trans hb2
end Go.Proofs.Ytegmddgbdjlidaa

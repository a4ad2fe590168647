/-
  The walks of op.Same, op.Twin.
-/
import Derived.Test.YtedcopjpgijpjaaOp3
namespace Go.Proofs.Ytedcopjpgijpjaa
open Go.RowKit

def eqOp (x y : Op) : Bool := decide (x = y)
theorem eqOp_true {x y : Op} (h : eqOp x y = true) : x = y := by unfold eqOp at h; simpa using h
theorem eqOp_false {x y : Op} (h : eqOp x y = false) : x ≠ y := by unfold eqOp at h; simpa using h
theorem eqOp_parts (x y : Op) : eqOp x y = (x.kind == y.kind && (!neqId x.id y.id && (x.pt == y.pt && same x.pl y.pl))) := by
  cases x; cases y
  unfold eqOp same neqId
  rw [Bool.eq_iff_iff]
  simp
  intros
  exact and_comm

set_option maxRecDepth 100000 in
set_option maxHeartbeats 2000000 in
theorem opSame (x y : Op) (A B : Option Addr) (c d : Nat) (w : World) (hx : OpIn w x A c) (hy : OpIn w y B d) :
    Calls Try.prog 20 #[.agg #[.int .u8 x.kind, .int .u32 x.id.t, .int .u8 x.id.r, .slice A x.pl.length c, .int .i64 x.pt], .agg #[.int .u8 y.kind, .int .u32 y.id.t, .int .u8 y.id.r, .slice B y.pl.length d, .int .i64 y.pt]] w fun e w' => e = .returned (.bool (eqOp x y)) ∧ Bl w w' := by
  obtain ⟨T, hT⟩ : ∃ T, T = eqOp x y := ⟨_, rfl⟩
  rw [← hT]
  rw [eqOp_parts] at hT
  have heq := run_eqId x.id y.id
  have hbl : ∀ o1 o2, Bl w ((w.alloc o1).alloc o2) := fun _ _ => ((Bl.refl _).alloc _).alloc _
  have hs := hide (fun W (hb : Bl w W) => placeSame A B c d x.pl y.pl W hx.small hy.small (hx.hR.bl hb) (hy.hR.bl hb))
  cases h1 : (x.kind == y.kind)
  · rw [h1] at hT
    have g := hide (show false = T from hT.symm)
    clear hT
    go_enter Try.func20, Try.ntmps20
    go_wp2_with fail
    go_ret
    exact ⟨ret_bool g.out, hbl _ _⟩
  rw [h1] at hT
  cases h2 : neqId x.id y.id
  rotate_left
  · rw [h2] at hT heq
    have g := hide (show false = T from hT.symm)
    clear hT h2
    go_enter Try.func20, Try.ntmps20
    go_wp2_with fail
    go_ret
    exact ⟨ret_bool g.out, hbl _ _⟩
  rw [h2] at hT heq
  clear h2
  cases h3 : (x.pt == y.pt)
  · rw [h3] at hT
    have g := hide (show false = T from hT.symm)
    clear hT
    go_enter Try.func20, Try.ntmps20
    go_wp2_with fail
    go_ret
    exact ⟨ret_bool g.out, hbl _ _⟩
  rw [h3] at hT
  have g : same x.pl y.pl = T := hT.symm
  rw [g] at hs
  clear hT g
  go_enter Try.func20, Try.ntmps20
  go_wp2_with fail
  refine (hs.out _ (hbl _ _)).mono ?_
  rintro e w1 ⟨rfl, hb1⟩
  go_wp2_with fail
  go_ret
  exact ⟨rfl, (hbl _ _).trans hb1⟩

/-- What hands back an operation whose place is new. -/
def NewOp (x : Op) (w : World) (e : Ending) (w' : World) : Prop := ∃ A c, e = .returned (.agg #[.int .u8 x.kind, .int .u32 x.id.t, .int .u8 x.id.r, .slice A x.pl.length c, .int .i64 x.pt]) ∧ x.pl.length ≤ c ∧ c ≤ maxLen ∧ R cRun w.heap.size w' A x.pl ∧ Bl w w'

set_option maxRecDepth 100000 in
set_option maxHeartbeats 2000000 in
theorem opTwin (x : Op) (A : Option Addr) (c : Nat) (w : World) (hx : OpIn w x A c) (hs : x.pl.length ≤ 1048576) :
    Calls Try.prog 39 #[.agg #[.int .u8 x.kind, .int .u32 x.id.t, .int .u8 x.id.r, .slice A x.pl.length c, .int .i64 x.pt]] w (NewOp x w) := by
  obtain ⟨W, hW⟩ : ∃ W, W = (w.alloc (.cells #[Value.int IntKind.u8 x.kind, Value.int IntKind.u32 x.id.t, Value.int IntKind.u8 x.id.r, Value.slice A x.pl.length c, Value.int IntKind.i64 x.pt] 33)).alloc (.cells #[Value.int IntKind.u8 0, Value.int IntKind.u32 0, Value.int IntKind.u8 0, Value.slice none 0 0, Value.int IntKind.i64 0] 33) := ⟨_, rfl⟩
  have hbW : Bl w W := by rw [hW]; exact ((Bl.refl _).alloc _).alloc _
  have at0 : OpBox W w.heap.size x A c := by rw [hW]; exact (OpBox.new w x A c _).bl ((Bl.refl _).alloc _)
  have at1 : OpBox W (w.heap.size + 1) ⟨0, ⟨0, 0⟩, [], 0⟩ none 0 := by
    rw [hW]
    have := OpBox.new (w.alloc (.cells #[Value.int IntKind.u8 x.kind, Value.int IntKind.u32 x.id.t, Value.int IntKind.u8 x.id.r, Value.slice A x.pl.length c, Value.int IntKind.i64 x.pt] 33)) ⟨0, ⟨0, 0⟩, [], 0⟩ none 0 33
    rw [World.size_alloc] at this
    exact this
  have hplt := hide (placeTwin A c x.pl W hs (hx.hR.bl hbW))
  obtain ⟨c0, c1, c2, c3, c4⟩ := at0.cells
  have hl0 := at0.lt
  go_enter Try.func39, Try.ntmps39
  go_wp2_with fail
  rw [← hW]
  clear hW
  go_wp2_with fail
  refine hplt.out.mono ?_
  rintro e w1 ⟨A1, n1, rfl, h1, h2, hr1, hb1⟩
  clear c0 c1 c2 c3 c4 hl0
  obtain ⟨c0, c1, c2, c3, c4⟩ := (at0.bl hb1).cells
  obtain ⟨f0, f1, f2, f3, f4⟩ := (at0.bl hb1).frozens
  obtain ⟨d0, d1, d2, d3, d4⟩ := (at1.bl hb1).cells
  obtain ⟨g0, g1, g2, g3, g4⟩ := (at1.bl hb1).frozens
  have hl0 := (at0.bl hb1).lt
  have hl1 := (at1.bl hb1).lt
  go_wp2_with fail
  refine bodyPost_ret (v := .agg #[.int .u8 x.kind, .int .u32 x.id.t, .int .u8 x.id.r, .slice A1 x.pl.length n1, .int .i64 x.pt]) (by simp [results, Try.results39, go_sem, d0, d1, d2, d3, d4]) rfl ?_
  refine ⟨A1, n1, rfl, h1, h2, ?_, ?_⟩
  · refine R.more (lo := W.heap.size) ?_ hbW.size
    have hlw0 := at0.lt
    have hlw1 := at1.lt
    repeat (refine R.set ?_ (by first | exact hlw0 | exact hlw1) _)
    exact hr1
  · have hb := hbW.trans hb1
    repeat (refine Bl.setCell ?_ (by simp) _)
    exact hb
end Go.Proofs.Ytedcopjpgijpjaa

/-
  The walks of op.right and its closures, op.Check, Same, Twin.
-/
import Derived.Test.YtedcopjpgijpjaaOp
namespace Go.Proofs.Ytedcopjpgijpjaa
open Go.RowKit

/-! ### An operation in a box -/
def OpBox (W : World) (Y : Nat) (x : Op) (A : Option Addr) (c : Nat) : Prop := At W Y 0 (opCells x A c)
section
variable {W W' : World} {Y : Nat} {x : Op} {A : Option Addr} {c : Nat}
theorem OpBox.new (w : World) (x : Op) (A : Option Addr) (c : Nat) (t : TypeId) : OpBox (w.alloc (.cells #[Value.int IntKind.u8 x.kind, Value.int IntKind.u32 x.id.t, Value.int IntKind.u8 x.id.r, Value.slice A x.pl.length c, Value.int IntKind.i64 x.pt] t)) w.heap.size x A c := At.new w (opCells x A c) t
theorem OpBox.bl (h : OpBox W Y x A c) (hb : Bl W W') : OpBox W' Y x A c := At.bl h hb (by simp [opCells])
theorem OpBox.lt (h : OpBox W Y x A c) : Y < W.heap.size := At.lt h (by simp [opCells])
theorem OpBox.cells (h : OpBox W Y x A c) : W.cell? ⟨Y, 0, none⟩ = some (.int .u8 x.kind) ∧ W.cell? ⟨Y, 1, none⟩ = some (.int .u32 x.id.t) ∧ W.cell? ⟨Y, 2, none⟩ = some (.int .u8 x.id.r) ∧ W.cell? ⟨Y, 3, none⟩ = some (.slice A x.pl.length c) ∧ W.cell? ⟨Y, 4, none⟩ = some (.int .i64 x.pt) :=
  ⟨(h 0 _ rfl).1, (h 1 _ rfl).1, (h 2 _ rfl).1, (h 3 _ rfl).1, (h 4 _ rfl).1⟩
theorem OpBox.frozens (h : OpBox W Y x A c) : W.frozen? ⟨Y, 0, none⟩ = false ∧ W.frozen? ⟨Y, 1, none⟩ = false ∧ W.frozen? ⟨Y, 2, none⟩ = false ∧ W.frozen? ⟨Y, 3, none⟩ = false ∧ W.frozen? ⟨Y, 4, none⟩ = false :=
  ⟨(h 0 _ rfl).2, (h 1 _ rfl).2, (h 2 _ rfl).2, (h 3 _ rfl).2, (h 4 _ rfl).2⟩
end

/-! ### May an operation be? -/
def opTail (x : Op) : Bool :=
  if x.kind = 1 then !neqId (placeFin x.pl) x.id && pointIs x.pt
  else if x.kind = 2 then !neqId (placeFin x.pl) x.id && decide (x.pt = 0)
  else decide (x.pt = 0) && decide ((placeFin x.pl).t < x.id.t)
def opMay (x : Op) : Bool := decide (1 ≤ x.kind) && decide (x.kind ≤ 4) && idMay x.id && placeMay x.pl && opTail x

/-- A pure operation value, its place readable: what the calls ask. -/
structure OpIn (w : World) (x : Op) (A : Option Addr) (c : Nat) : Prop where
  ok : x.ok
  h1 : x.pl.length ≤ c
  h2 : c ≤ maxLen
  hR : R cRun 0 w A x.pl
theorem OpIn.bl {w w' : World} {x : Op} {A : Option Addr} {c : Nat} (h : OpIn w x A c) (hb : Bl w w') : OpIn w' x A c := ⟨h.ok, h.h1, h.h2, h.hR.bl hb⟩
theorem OpIn.small {w : World} {x : Op} {A : Option Addr} {c : Nat} (h : OpIn w x A c) : x.pl.length ≤ maxLen := Nat.le_trans h.h1 h.h2

set_option maxRecDepth 100000 in
set_option maxHeartbeats 1000000 in
theorem opOwn (x : Op) (A : Option Addr) (c : Nat) (w : World) (hx : OpIn w x A c) :
    Calls Try.prog 97 #[.agg #[.int .u8 x.kind, .int .u32 x.id.t, .int .u8 x.id.r, .slice A x.pl.length c, .int .i64 x.pt]] w fun e w' => e = .returned (.bool (!neqId (placeFin x.pl) x.id)) ∧ Bl w w' := by
  have hl := hx.small
  have heq := run_eqId (placeFin x.pl) x.id
  have hla := fun W (hb : Bl w W) => placeLast A c x.pl W hl (hx.hR.bl hb)
  obtain ⟨W, hW⟩ : ∃ W, W = w.alloc (.cells #[Value.int IntKind.u8 x.kind, Value.int IntKind.u32 x.id.t, Value.int IntKind.u8 x.id.r, Value.slice A x.pl.length c, Value.int IntKind.i64 x.pt] 33) := ⟨_, rfl⟩
  have hbW : Bl w W := by rw [hW]; exact (Bl.refl _).alloc _
  have hat : OpBox W w.heap.size x A c := by rw [hW]; exact OpBox.new w x A c _
  obtain ⟨c0, c1, c2, c3, c4⟩ := hat.cells
  have hlt := hat.lt
  have C1 := fun p : Wd W => Wd.cell c1 hlt p
  have C2 := fun p : Wd W => Wd.cell c2 hlt p
  have C3 := fun p : Wd W => Wd.cell c3 hlt p
  have hcw := hide (fun p : Wd W => hla p.v (hbW.trans p.h))
  clear c0 c1 c2 c3 c4 hat hla
  go_enter Try.func97, Try.ntmps97
  go_wp2
  rw [← hW]
  clear hW
  (refine wp_region_wd (by kernel_rfl) (by kernel_rfl) ?_
   repeat (go_big_quiet_step ((go_at_call 98; exact Calls.wd (hcw.out _))))
   refine wpQuiet_nil ?_
   intro w2 hw'
   obtain ⟨⟨wx, hb2⟩, hw''⟩ := hw'
   subst hw'')
  go_wp2
  go_ret
  exact ⟨rfl, hbW.trans hb2⟩

set_option maxRecDepth 100000 in
set_option maxHeartbeats 1000000 in
theorem opYounger (x : Op) (A : Option Addr) (c : Nat) (w : World) (hx : OpIn w x A c) :
    Calls Try.prog 99 #[.agg #[.int .u8 x.kind, .int .u32 x.id.t, .int .u8 x.id.r, .slice A x.pl.length c, .int .i64 x.pt]] w fun e w' => e = .returned (.bool (decide (x.pt = 0) && decide ((placeFin x.pl).t < x.id.t))) ∧ Bl w w' := by
  have hl := hx.small
  have hfd : ∀ W : World, (Instr.field 30 (.agg #[.int .u32 (placeFin x.pl).t, .int .u8 (placeFin x.pl).r]) 0).run Try.prog W = .ok (.int .u32 (placeFin x.pl).t) W := fun _ => by kernel_rfl
  have hla := fun W (hb : Bl w W) => placeLast A c x.pl W hl (hx.hR.bl hb)
  obtain ⟨W, hW⟩ : ∃ W, W = w.alloc (.cells #[Value.int IntKind.u8 x.kind, Value.int IntKind.u32 x.id.t, Value.int IntKind.u8 x.id.r, Value.slice A x.pl.length c, Value.int IntKind.i64 x.pt] 33) := ⟨_, rfl⟩
  have hbW : Bl w W := by rw [hW]; exact (Bl.refl _).alloc _
  have hat : OpBox W w.heap.size x A c := by rw [hW]; exact OpBox.new w x A c _
  obtain ⟨c0, c1, c2, c3, c4⟩ := hat.cells
  have hlt := hat.lt
  have C1 := fun p : Wd W => Wd.cell c1 hlt p
  have C2 := fun p : Wd W => Wd.cell c2 hlt p
  have C3 := fun p : Wd W => Wd.cell c3 hlt p
  have C4 := fun p : Wd W => Wd.cell c4 hlt p
  have hcw := hide (fun p : Wd W => hla p.v (hbW.trans p.h))
  clear c0 c1 c2 c3 c4 hat hla
  by_cases hp : x.pt = 0
  · have hp' : (x.pt == 0) = true := by simp [hp]
    have g := hide (show decide ((placeFin x.pl).t < x.id.t) = (decide (x.pt = 0) && decide ((placeFin x.pl).t < x.id.t)) by rw [decide_eq_true hp]; rfl)
    clear hp
    go_enter Try.func99, Try.ntmps99
    go_wp2
    rw [← hW]
    clear hW
    (refine wp_region_wd (by kernel_rfl) (by kernel_rfl) ?_
     repeat (go_big_quiet_step ((go_at_call 98; exact Calls.wd (hcw.out _))))
     refine wpQuiet_nil ?_
     intro w2 hw'
     obtain ⟨⟨wx, hb2⟩, hw''⟩ := hw'
     subst hw'')
    go_wp2
    go_ret
    exact ⟨ret_bool g.out, hbW.trans hb2⟩
  · have hp' : (x.pt == 0) = false := by simp [hp]
    have g := hide (show false = (decide (x.pt = 0) && decide ((placeFin x.pl).t < x.id.t)) by rw [decide_eq_false hp]; rfl)
    clear hp
    go_enter Try.func99, Try.ntmps99
    go_wp2
    rw [← hW]
    clear hW
    (refine wp_region_wd (by kernel_rfl) (by kernel_rfl) ?_
     repeat (go_big_quiet_step ((go_at_call 98; exact Calls.wd (hcw.out _))))
     refine wpQuiet_nil ?_
     intro w2 hw'
     obtain ⟨⟨wx, hb2⟩, hw''⟩ := hw'
     subst hw'')
    go_wp2
    go_ret
    exact ⟨ret_bool g.out, hbW.trans hb2⟩

set_option maxRecDepth 100000 in
set_option maxHeartbeats 1000000 in
theorem opInsert (x : Op) (A : Option Addr) (c Y : Nat) (w : World) (hx : OpIn w x A c) (hY : w.cell? ⟨Y, 0, none⟩ = some (.func (.func 97) #[] #[])) :
    Calls Try.prog 100 #[.agg #[.int .u8 x.kind, .int .u32 x.id.t, .int .u8 x.id.r, .slice A x.pl.length c, .int .i64 x.pt], .pointer (some ⟨Y, 0, none⟩)] w fun e w' => e = .returned (.bool (!neqId (placeFin x.pl) x.id && pointIs x.pt)) ∧ Bl w w' := by
  have hpt := fun W => pointCheck x.pt W hx.ok.2.2
  have hV0 : Bl w (w.alloc (.cells #[Value.int IntKind.u8 x.kind, Value.int IntKind.u32 x.id.t, Value.int IntKind.u8 x.id.r, Value.slice A x.pl.length c, Value.int IntKind.i64 x.pt] 33)) := (Bl.refl _).alloc _
  have hat := OpBox.new w x A c 33
  have hYl : Y < w.heap.size := World.block_lt_of_cell? w _ hY
  have hne : Y ≠ w.heap.size := by omega
  have how := fun W (hb : Bl w W) => opOwn x A c W (hx.bl hb)
  cases hq : !neqId (placeFin x.pl) x.id
  · have g := hide (show false = (false && pointIs x.pt) from rfl)
    rw [hq] at how
    replace how := hide how
    clear hq
    go_enter Try.func100, Try.ntmps100
    go_wp2_with fail
    refine (how.out _ hV0).mono ?_
    rintro e w1 ⟨rfl, hb1⟩
    go_wp2_with fail
    go_ret
    exact ⟨rfl, hV0.trans hb1⟩
  · rw [hq] at how
    replace how := hide how
    clear hq
    cases hpi : pointIs x.pt
    · rw [hpi, okOr_false] at hpt
      replace hpt := hide hpt
      clear hpi
      go_enter Try.func100, Try.ntmps100
      go_wp2_with fail
      refine (how.out _ hV0).mono ?_
      rintro e w1 ⟨rfl, hb1⟩
      obtain ⟨x0, x1, x2, x3, x4⟩ := (hat.bl hb1).cells
      go_wp2_with fail
      refine (hpt.out _).mono ?_
      rintro e w2 ⟨rfl, hb2⟩
      go_wp2_with fail
      go_ret
      exact ⟨rfl, (hV0.trans hb1).trans hb2⟩
    · rw [hpi, okOr_true] at hpt
      replace hpt := hide hpt
      clear hpi
      go_enter Try.func100, Try.ntmps100
      go_wp2_with fail
      refine (how.out _ hV0).mono ?_
      rintro e w1 ⟨rfl, hb1⟩
      obtain ⟨x0, x1, x2, x3, x4⟩ := (hat.bl hb1).cells
      go_wp2_with fail
      refine (hpt.out _).mono ?_
      rintro e w2 ⟨rfl, hb2⟩
      go_wp2_with fail
      go_ret
      exact ⟨rfl, (hV0.trans hb1).trans hb2⟩

set_option maxRecDepth 100000 in
set_option maxHeartbeats 1000000 in
theorem opMark (x : Op) (A : Option Addr) (c Y : Nat) (w : World) (hx : OpIn w x A c) (hY : w.cell? ⟨Y, 0, none⟩ = some (.func (.func 97) #[] #[])) :
    Calls Try.prog 102 #[.agg #[.int .u8 x.kind, .int .u32 x.id.t, .int .u8 x.id.r, .slice A x.pl.length c, .int .i64 x.pt], .pointer (some ⟨Y, 0, none⟩)] w fun e w' => e = .returned (.bool (!neqId (placeFin x.pl) x.id && decide (x.pt = 0))) ∧ Bl w w' := by
  have hV0 : Bl w (w.alloc (.cells #[Value.int IntKind.u8 x.kind, Value.int IntKind.u32 x.id.t, Value.int IntKind.u8 x.id.r, Value.slice A x.pl.length c, Value.int IntKind.i64 x.pt] 33)) := (Bl.refl _).alloc _
  have hat := OpBox.new w x A c 33
  have hYl : Y < w.heap.size := World.block_lt_of_cell? w _ hY
  have hne : Y ≠ w.heap.size := by omega
  have how := fun W (hb : Bl w W) => opOwn x A c W (hx.bl hb)
  cases hq : !neqId (placeFin x.pl) x.id
  · rw [hq] at how
    replace how := hide how
    clear hq
    go_enter Try.func102, Try.ntmps102
    go_wp2_with fail
    refine (how.out _ hV0).mono ?_
    rintro e w1 ⟨rfl, hb1⟩
    go_wp2_with fail
    go_ret
    exact ⟨rfl, hV0.trans hb1⟩
  · rw [hq] at how
    replace how := hide how
    clear hq
    have e1 : (x.pt == 0) = decide (x.pt = 0) := by by_cases h : x.pt = 0 <;> simp [h]
    generalize decide (x.pt = 0) = b at e1
    go_enter Try.func102, Try.ntmps102
    go_wp2_with fail
    refine (how.out _ hV0).mono ?_
    rintro e w1 ⟨rfl, hb1⟩
    obtain ⟨x0, x1, x2, x3, x4⟩ := (hat.bl hb1).cells
    go_wp2_with fail
    go_ret
    exact ⟨rfl, hV0.trans hb1⟩
end Go.Proofs.Ytedcopjpgijpjaa

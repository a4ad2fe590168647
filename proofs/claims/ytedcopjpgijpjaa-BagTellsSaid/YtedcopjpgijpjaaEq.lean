/-
  Equality: lists of bools, of stamps; entries; shelves. (Printed by wip/bin/gen_eq.py.)
-/
import Derived.Test.YtedcopjpgijpjaaEntry
import Derived.Test.YtedcopjpgijpjaaRefClock
namespace Go.Proofs.Ytedcopjpgijpjaa
open Go.RowKit

theorem run_neqBool (x y : Bool) (W : World) : (binOp .neq 4 (.bool x) (.bool y)).run Try.prog W = .ok (.bool (x != y)) W := by
  have u := Try.underlying4
  go_simp
  cases x <;> cases y <;> rfl
theorem neqBool_false {x y : Bool} (h : (x != y) = false) : x = y := by simpa using h
theorem neqBool_true {x y : Bool} (h : (x != y) = true) : x ≠ y := by simpa using h

/-! ### Entries -/
def eqEntry (x y : Entry) : Bool := decide (x = y)
theorem eqEntry_true {x y : Entry} (h : eqEntry x y = true) : x = y := by unfold eqEntry at h; simpa using h
theorem eqEntry_false {x y : Entry} (h : eqEntry x y = false) : x ≠ y := by unfold eqEntry at h; simpa using h
theorem eqEntry_no {x y : Entry} (h : x ≠ y) : false = eqEntry x y := by unfold eqEntry; simp [h]
theorem eqEntry_parts (x y : Entry) : eqEntry x y = ((!neqId x.id y.id) && (x.ready == y.ready) && (x.pin == y.pin) && (x.used == y.used) && (x.known == y.known) && same x.snap y.snap && same x.got y.got) := by
  unfold eqEntry same neqId
  rw [Bool.eq_iff_iff]
  cases x; cases y
  simp [and_assoc]
theorem run_eqBool (x y : Bool) (W : World) : (binOp .eql 4 (.bool x) (.bool y)).run Try.prog W = .ok (.bool (x == y)) W := by
  have u := Try.underlying4
  go_simp
theorem lt_of_alloc2 {w w' : World} {o p : Obj} (h : Bl ((w.alloc o).alloc p) w') : w.heap.size + 1 < w'.heap.size := by
  have := h.size
  rw [World.size_alloc, World.size_alloc] at this
  omega

end Go.Proofs.Ytedcopjpgijpjaa

/-
  The walks of package stamp, and of the references of layer 5.
-/
import Derived.Test.YtiimpmdnkjhcoaaQuiet
import Derived.Test.YtiimpmdnkjhcoaaFloat
import Derived.Test.YtiimpmdnkjhcoaaRows
import Derived.WalkKit
import Derived.WalkSpells
import Derived.WalkLawsBesides
import Derived.BigQuiet
import Derived.Deep.QuietTactic
import Derived.Deep.RegionWith
namespace Go.Proofs.Ytiimpmdnkjhcoaa
open Go.RowKit

def Id.val (a : Id) : Value := .agg #[.int .u32 a.t, .int .u8 a.r]

/-- stamp.Less. -/
def idLess (a b : Id) : Bool := decide (a.t < b.t) || decide (a.t = b.t) && decide (a.r < b.r)

/-- stamp.Check: may a stamp be? -/
def idMay (a : Id) : Bool := decide (1 ≤ a.t) && decide (a.t ≤ 1073741824) && decide (a.r < 8)

set_option maxHeartbeats 400000 in
theorem stampCheck (a : Id) (w : World) :
    Calls Try.prog 87 #[.agg #[.int .u32 a.t, .int .u8 a.r]] w fun e w' => e = .returned (.int .i64 (okOr 8 (idMay a))) ∧ Bl w w' := by
  have hbl : ∀ x : Obj, Bl w (w.alloc x) := fun x => (Bl.refl _).alloc _
  go_enter Try.func87, Try.ntmps87
  go_wp2
  all_goals
    go_ret
    exact ⟨ret_int (by simp_all [idMay, okOr] <;> omega), hbl _⟩

set_option maxHeartbeats 400000 in
theorem refMay05 (a : Id) (w : World) :
    Calls Try.prog 70 #[.agg #[.int .u32 a.t, .int .u8 a.r]] w fun e w' => e = .returned (.bool (idMay a)) ∧ Bl w w' := by
  have hbl : ∀ x : Obj, Bl w (w.alloc x) := fun x => (Bl.refl _).alloc _
  go_enter Try.func70, Try.ntmps70
  go_wp2
  all_goals
    go_ret
    exact ⟨ret_bool (by simp_all [idMay] <;> omega), hbl _⟩
end Go.Proofs.Ytiimpmdnkjhcoaa

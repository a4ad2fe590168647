/-
  slices.Sort at uint32, turned from the worked walks of the sort at int: cmp.Less.
-/
import Derived.Test.YtiimpmdnkjhcoaaChecked
import Derived.Sort.Walk0
import Derived.Sort.WalkB12
namespace Go.Proofs.Ytiimpmdnkjhcoaa
open Go.RowKit Go.Sort

abbrev encU : Int → Value := fun x => Value.int .u32 x

set_option maxHeartbeats 1000000 in
theorem cmp_isNaN_u32 (x : Int) (w : World) : Calls Try.prog 122 #[.int .u32 x] w fun e w' => e = .returned (.bool false) ∧ w' = w := by
  go_enter Try.func122, Try.ntmps122
  go_wp2
  go_ret
  exact ⟨by simp, rfl⟩

set_option maxHeartbeats 1000000 in
theorem cmp_Less_u32 (x y : Int) (w : World) : Calls Try.prog 111 #[.int .u32 x, .int .u32 y] w fun e w' => e = .returned (.bool (Sort.ltInt x y)) ∧ w' = w := by
  go_enter Try.func111, Try.ntmps111
  go_wp2_with (go_at_call 122; refine (cmp_isNaN_u32 _ _).mono ?_; rintro e w' ⟨rfl, rfl⟩)
  go_ret
  exact ⟨rfl, rfl⟩
end Go.Proofs.Ytiimpmdnkjhcoaa

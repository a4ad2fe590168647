/-
  The walks of package stamp, and of the references of layer 5.
-/
import Derived.Test.YteoodmilcpmmpaaGreatQuiet
import Derived.Test.YteoodmilcpmmpaaGreatFloat
import Derived.Test.YteoodmilcpmmpaaGreatRows
import Derived.WalkKit
import Derived.WalkSpells
import Derived.WalkLawsBesides
import Derived.BigQuiet
import Derived.Deep.QuietTactic
import Derived.Deep.RegionWith
namespace Go.Proofs.YteoodmilcpmmpaaGreat

open Go.RowKit

def Id.val (a : Id) : Value := .agg #[.int .u32 a.t, .int .u8 a.r]

set_option maxHeartbeats 400000 in
theorem stampAt (a : Id) (w : World) (_ha : a.ok) :
    Calls Tryz.prog 120 #[.agg #[.int .u32 a.t, .int .u8 a.r]] w fun e w' => e = .returned (.complex .f64 (floatOfInt .f64 a.t) (floatOfInt .f64 a.r)) ∧ Bl w w' := by
  go_enter Tryz.func120, Tryz.ntmps120
  go_wp2
  go_ret
  exact ⟨rfl, (Bl.refl _).alloc _⟩

/-- stamp.Less. -/
def idLess (a b : Id) : Bool := decide (a.t < b.t) || decide (a.t = b.t) && decide (a.r < b.r)

set_option maxHeartbeats 400000 in
theorem stampLess (a b : Id) (w : World) (ha : a.ok) (hb : b.ok) :
    Calls Tryz.prog 66 #[.agg #[.int .u32 a.t, .int .u8 a.r], .agg #[.int .u32 b.t, .int .u8 b.r]] w fun e w' => e = .returned (.bool (idLess a b)) ∧ Bl w w' := by
  obtain ⟨d1, h1, h1g, h1e⟩ := sub_of_int a.t b.t ha.1 ha.2.1 hb.1 hb.2.1
  obtain ⟨d2, h2, h2g, h2e⟩ := sub_of_int a.r b.r ha.2.2.1 (by have := ha.2.2.2; omega) hb.2.2.1 (by have := hb.2.2.2; omega)
  have hsub := fun w => run_complex_sum (P := Tryz.prog) w .sub (.inr rfl) 154 .f64 (floatOfInt .f64 b.t) (floatOfInt .f64 b.r) (floatOfInt .f64 a.t) (floatOfInt .f64 a.r) d1 d2 (by unfold cSumBits; simp [h1, h2])
  have H1 := hide h1; have H2 := hide h2
  clear h1 h2
  go_enter Tryz.func66, Tryz.ntmps66
  go_wp2
  obtain ⟨W, hW⟩ : ∃ W, W = (w.alloc (Obj.cells #[Value.int IntKind.u32 a.t, Value.int IntKind.u8 a.r] 25)).alloc (Obj.cells #[Value.int IntKind.u32 b.t, Value.int IntKind.u8 b.r] 25) := ⟨_, rfl⟩
  rw [← hW]
  have hbl : Bl w W := by rw [hW]; exact ((Bl.refl _).alloc _).alloc _
  have c0 : ∀ p : Wd W, p.v.cell? ⟨w.heap.size, 0, none⟩ = some (.int .u32 a.t) := fun p => Wd.cell (by rw [hW]; simp) (by rw [hW]; simp; omega) p
  have c1 : ∀ p : Wd W, p.v.cell? ⟨w.heap.size, 1, none⟩ = some (.int .u8 a.r) := fun p => Wd.cell (by rw [hW]; simp) (by rw [hW]; simp; omega) p
  have c2 : ∀ p : Wd W, p.v.cell? ⟨w.heap.size + 1, 0, none⟩ = some (.int .u32 b.t) := fun p => Wd.cell (by rw [hW]; simp) (by rw [hW]; simp) p
  have c3 : ∀ p : Wd W, p.v.cell? ⟨w.heap.size + 1, 1, none⟩ = some (.int .u8 b.r) := fun p => Wd.cell (by rw [hW]; simp) (by rw [hW]; simp) p
  clear hW
  (refine wp_region_wd (by kernel_rfl) (by kernel_rfl) ?_
   repeat (go_big_quiet_step ((first | (go_at_call_of 120 a.t; exact Calls.wd (stampAt a _ ha)) | (go_at_call_of 120 b.t; exact Calls.wd (stampAt b _ hb)))))
   refine wpQuiet_nil ?_
   intro w2 hw'
   obtain ⟨⟨wx, hb2⟩, hw''⟩ := hw'
   subst hw'')
  have hfin := hbl.trans hb2
  by_cases g1 : a.t < b.t
  · have e1 : (FloatKind.f64.format.order d1 0 == some Ordering.gt) = true := by rw [h1g]; simp [g1]
    clear h1g h1e h2g h2e
    go_wp2
    go_ret
    exact ⟨ret_bool (by simp [idLess, g1]), hfin⟩
  · have e1 : (FloatKind.f64.format.order d1 0 == some Ordering.gt) = false := by rw [h1g]; simp [g1]
    by_cases g2 : a.t = b.t
    · have e2 : (FloatKind.f64.format.order d1 0 == some Ordering.eq) = true := by rw [h1e]; simp [g2]
      have G2 := hide g2
      clear h1g h1e h2e g2
      go_wp2
      go_ret
      exact ⟨ret_bool (by simp [idLess, G2.out]), hfin⟩
    · have e2 : (FloatKind.f64.format.order d1 0 == some Ordering.eq) = false := by rw [h1e]; simp [g2]
      clear h1g h1e h2g h2e
      go_wp2
      go_ret
      exact ⟨ret_bool (by simp [idLess, g1, g2]), hfin⟩

set_option maxHeartbeats 400000 in
theorem refLess05 (a b : Id) (w : World) :
    Calls Tryz.prog 100 #[.agg #[.int .u32 a.t, .int .u8 a.r], .agg #[.int .u32 b.t, .int .u8 b.r]] w fun e w' => e = .returned (.bool (idLess a b)) ∧ Bl w w' := by
  have hbl : ∀ x y : Obj, Bl w ((w.alloc x).alloc y) := fun x y => ((Bl.refl _).alloc _).alloc _
  go_enter Tryz.func100, Tryz.ntmps100
  go_wp2
  all_goals
    go_ret
    exact ⟨ret_bool (by simp_all [idLess]), hbl _ _⟩

/-- stamp.Check: may a stamp be? -/
def idMay (a : Id) : Bool := decide (1 ≤ a.t) && decide (a.t ≤ 1073741824) && decide (a.r < 8)

set_option maxHeartbeats 400000 in
theorem stampCheck (a : Id) (w : World) :
    Calls Tryz.prog 96 #[.agg #[.int .u32 a.t, .int .u8 a.r]] w fun e w' => e = .returned (.int .i64 (okOr 8 (idMay a))) ∧ Bl w w' := by
  have hbl : ∀ x : Obj, Bl w (w.alloc x) := fun x => (Bl.refl _).alloc _
  go_enter Tryz.func96, Tryz.ntmps96
  go_wp2
  all_goals
    go_ret
    exact ⟨ret_int (by simp_all [idMay, okOr] <;> omega), hbl _⟩

set_option maxHeartbeats 400000 in
theorem refMay05 (a : Id) (w : World) :
    Calls Tryz.prog 134 #[.agg #[.int .u32 a.t, .int .u8 a.r]] w fun e w' => e = .returned (.bool (idMay a)) ∧ Bl w w' := by
  have hbl : ∀ x : Obj, Bl w (w.alloc x) := fun x => (Bl.refl _).alloc _
  go_enter Tryz.func134, Tryz.ntmps134
  go_wp2
  all_goals
    go_ret
    exact ⟨ret_bool (by simp_all [idMay] <;> omega), hbl _⟩

end Go.Proofs.YteoodmilcpmmpaaGreat

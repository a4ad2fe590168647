/-
  The law ClockIds of layer 08 (package octavolaw08) returns true and leaves its arguments as they were: for every argument, with no condition.
-/
import Derived.Test.YtkolimhkfiebeaaClockIdsLaw
import Derived.Test.YtkolimhkfiebeaaOpenAll
namespace Go.Proofs.Ytkolimhkfiebeaa
open Go.ChangeShapes Go.WideShapes Go.ChangeAt Go.RowKit

set_option maxRecDepth 100000 in
theorem clockIdsLifted (os : Os) (started : os.Started) (H : Type) (enc : TypeId × Value → H) :
    ReturnsInHanded {} Try.checked os 5 .any (Rows.clockIdsSpec.pre6 enc Try.prog Try.f5 Rows.clockIdsRow.domain false) (Rows.clockIdsSpec.post enc Try.prog Try.f5 false true false false) := by
  refine returnsInHanded_of_change_sized (C := Try.checked) ownKnobNone started (by kernel_rfl) Try.func5
    (ChangeSpec.witness6 (enc := enc) (C := Try.checked) false ⟨#[], #[.slice none 0 0, .slice none 0 0], []⟩ 8 (by kernel_rfl) (by kernel_rfl) (by kernel_rfl) (by kernel_rfl)) ?_
  intro W base args ds gs before hval0 hW hcnd0 hsz0 _
  have hval : ∀ (j : Nat) t v, Try.f5.params[j]? = some t → args[j]? = some v → Value.okWide Try.prog W .any base t v := hval0
  have hsz : (DataW.weightsEach Try.prog (Try.f5.params.toList ++ Rows.clockIdsSpec.plain.varTypes Try.prog) (ds ++ gs)).all (· ≤ reachBytes) = true := hsz0
  have hW' := hW
  have hlt := hW.lt
  obtain ⟨p, q, hA0, hV, rfl, hfz, hnd⟩ := hW
  have hA : DataW.TrodAll enc Try.prog W 0 (fun _ => true) true Try.f5.params.toList args.toList ds p := hA0
  have hA1 := hA
  rw [Try.params5] at hA hval hsz
  obtain ⟨v0, v1, d0, d1, p0, p1, rfl, rfl, rfl, h0, h1⟩ := trodAll_two hA
  obtain ⟨rfl, rfl⟩ := trodVars_none hV
  clear hA0 hval0 hsz0
  obtain ⟨l_A, l_c, l, rfl, -, -, l_r, l_l, -⟩ := arg_slice unIds coId rd_id (hval 0 39 v0 rfl rfl) h0 (fun b off h => hfz b off (by simp [h])) (fits_of hsz 0 rfl rfl)
  obtain ⟨t_A, t_c, t, rfl, t_h1, t_h2, t_r, t_l, t_q⟩ := arg_slice unTimess coTimes rd_times (hval 1 22 v1 rfl rfl) h1 (fun b off h => hfz b off (by simp [h])) (fits_of hsz 1 rfl rfl)
  simp only [List.append_nil] at hW' hlt
  refine (lawClockIds08 l_A t_A l_c t_c l t W (ids_len l_l) (times_len t_l) t_q l_r t_r).mono fun e W' ⟨he, hg⟩ => ?_
  subst he
  exact ⟨_, rfl, post_bl2 (pa := p0 ++ p1) (pv := []) hW' hg (by simp) (fun _ _ _ => trodAll_cons_mk (shut_bool Try.underlying4 _) trodAll_mk0)
    (args_stay laidOutTry hg (by rw [Try.params5]; intro t ht; simp at ht; rcases ht with rfl | rfl; exact read_ids; exact read_timess) hA1 hlt) (fun _ _ => rfl)⟩

/-- The statement. -/
theorem clockIds_holds : Rows.ClockIdsSaid :=
  OpenClaim.holds_of_wide 5 Try.f5 rfl rfl rfl rfl rfl rfl rfl ⟨rfl, rfl, rfl, rfl, rfl⟩ rfl rfl rfl rfl rfl (by kernel_rfl) Try.func5 (by kernel_rfl)
    (of_decide_eq_true (by kernel_rfl)) (by unfold Func.isWrapper; first | (rw [if_pos (by decide +kernel)]; kernel_rfl) | (rw [if_neg (by decide +kernel)]; exact ⟨rfl, rfl⟩))
    (fun os started H enc _ => clockIdsLifted os started H enc)

#print axioms clockIds_holds
end Go.Proofs.Ytkolimhkfiebeaa

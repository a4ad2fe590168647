/-
  The law AnchorTells of layer 17 (package octavolaw17) returns true and leaves its arguments as they were: for every argument, with no condition.
-/
import Derived.Test.YteoodmilcpmmpaaGreatAncTells
import Derived.Test.YteoodmilcpmmpaaGreatOpenR
namespace Go.Proofs.YteoodmilcpmmpaaGreat
open Go.ChangeShapes Go.WideShapes Go.ChangeAt Go.RowKit

set_option maxRecDepth 100000 in
theorem anchorTellsLifted (os : Os) (started : os.Started) (H : Type) (enc : TypeId × Value → H) :
    ReturnsInHanded {} Tryz.checked os 3 .any (Rows.anchorTellsSpec.pre6 enc Tryz.prog Tryz.f3 Rows.anchorTellsRow.domain false) (Rows.anchorTellsSpec.post enc Tryz.prog Tryz.f3 false true false false) := by
  refine returnsInHanded_of_change_sized (C := Tryz.checked) ownKnobNone started (by kernel_rfl) Tryz.func3
    (ChangeSpec.witness6 (enc := enc) (C := Tryz.checked) false ⟨#[], #[.slice none 0 0, .agg #[.int .u32 0, .int .u8 0], .int .i64 0, .slice none 0 0], []⟩ 8 (by kernel_rfl) (by kernel_rfl) (by kernel_rfl) (by kernel_rfl)) ?_
  intro W base args ds gs before hval0 hW hcnd0 hsz0 _
  have hval : ∀ (j : Nat) t v, Tryz.f3.params[j]? = some t → args[j]? = some v → Value.okWide Tryz.prog W .any base t v := hval0
  have hsz : (DataW.weightsEach Tryz.prog (Tryz.f3.params.toList ++ Rows.anchorTellsSpec.plain.varTypes Tryz.prog) (ds ++ gs)).all (· ≤ reachBytes) = true := hsz0
  have hW' := hW
  have hlt := hW.lt
  obtain ⟨p, q, hA0, hV, rfl, hfz, hnd⟩ := hW
  have hA : DataW.TrodAll enc Tryz.prog W 0 (fun _ => true) true Tryz.f3.params.toList args.toList ds p := hA0
  have hA1 := hA
  rw [Tryz.params3] at hA hval hsz
  obtain ⟨v0, v1, v2, v3, d0, d1, d2, d3, p0, p1, p2, p3, rfl, rfl, rfl, h0, h1, h2, h3⟩ := trodAll_four hA
  obtain ⟨rfl, rfl⟩ := trodVars_none hV
  clear hA0 hval0 hsz0
  obtain ⟨l_A, l_c, l, rfl, l_h1, l_h2, l_r, l_l, l_q⟩ := arg_slice unOps coOp rd_op (hval 0 22 v0 rfl rfl) h0 (fun b off h => hfz b off (by simp [h])) (fits_of hsz 0 rfl rfl)
  obtain ⟨s, rfl, s_ok⟩ := arg_id (hval 1 25 v1 rfl rfl) h1 (fun b off h => hfz b off (by simp [h])) (fits_of hsz 1 rfl rfl)
  obtain ⟨k, rfl, k_ok⟩ := arg_int (hval 2 3 v2 rfl rfl) h2 (fun b off h => hfz b off (by simp [h])) (fits_of hsz 2 rfl rfl)
  obtain ⟨p_A, p_c, p, rfl, p_h1, p_h2, p_r, p_l, p_q⟩ := arg_slice unRuns coRun rd_run (hval 3 26 v3 rfl rfl) h3 (fun b off h => hfz b off (by simp [h])) (fits_of hsz 3 rfl rfl)
  simp only [List.append_nil] at hW' hlt
  refine (anchorTells17 l_A p_A l_c p_c l s k p W (ops_len l_l) p_h1 p_h2 l_r p_r).mono fun e W' ⟨he, hg⟩ => ?_
  subst he
  exact ⟨_, rfl, post_bl2 (pa := p0 ++ p1 ++ p2 ++ p3) (pv := []) hW' hg (by simp) (fun _ _ _ => trodAll_cons_mk (shut_bool Tryz.underlying4 _) trodAll_mk0)
    (args_stay laidOutTry hg (by rw [Tryz.params3]; intro t ht; simp at ht; rcases ht with rfl | rfl | rfl | rfl; exact read_ops; exact read_id; exact read_int; exact read_runs) hA1 hlt) (fun _ _ => rfl)⟩

/-- The statement. -/
theorem anchorTells_holds : Rows.AnchorTellsSaid :=
  OpenClaim.holds_of_wide 3 Tryz.f3 rfl rfl rfl rfl rfl rfl rfl ⟨rfl, rfl, rfl, rfl, rfl⟩ rfl rfl rfl rfl rfl (by kernel_rfl) Tryz.func3 (by kernel_rfl)
    (of_decide_eq_true (by kernel_rfl)) (by unfold Func.isWrapper; first | (rw [if_pos (by decide +kernel)]; kernel_rfl) | (rw [if_neg (by decide +kernel)]; exact ⟨rfl, rfl⟩))
    (fun os started H enc _ => anchorTellsLifted os started H enc)

#print axioms anchorTells_holds
end Go.Proofs.YteoodmilcpmmpaaGreat

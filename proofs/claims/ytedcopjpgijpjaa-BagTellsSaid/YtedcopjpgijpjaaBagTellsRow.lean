/-
  The law BagTells of layer 11 (package octavolaw11) returns true and leaves its arguments as they were: for every argument, with no condition.
-/
import Derived.Test.YtedcopjpgijpjaaBagTells
import Derived.Test.YtedcopjpgijpjaaOpenOp
namespace Go.Proofs.Ytedcopjpgijpjaa
open Go.ChangeShapes Go.WideShapes Go.ChangeAt Go.RowKit

set_option maxRecDepth 100000 in
theorem bagTellsLifted (os : Os) (started : os.Started) (H : Type) (enc : TypeId × Value → H) :
    ReturnsInHanded {} Try.checked os 5 .any (Rows.bagTellsSpec.pre6 enc Try.prog Try.f5 Rows.bagTellsRow.domain false) (Rows.bagTellsSpec.post enc Try.prog Try.f5 false true false false) := by
  refine returnsInHanded_of_change_sized (C := Try.checked) ownKnobNone started (by kernel_rfl) Try.func5
    (ChangeSpec.witness6 (enc := enc) (C := Try.checked) false ⟨#[], #[.slice none 0 0, .slice none 0 0, .agg #[.int .u8 0, .int .u32 0, .int .u8 0, .slice none 0 0, .int .i64 0], .slice none 0 0], []⟩ 8 (by kernel_rfl) (by kernel_rfl) (by kernel_rfl) (by kernel_rfl)) ?_
  intro W base args ds gs before hval0 hW hcnd0 hsz0 _
  have hval : ∀ (j : Nat) t v, Try.f5.params[j]? = some t → args[j]? = some v → Value.okWide Try.prog W .any base t v := hval0
  have hsz : (DataW.weightsEach Try.prog (Try.f5.params.toList ++ Rows.bagTellsSpec.plain.varTypes Try.prog) (ds ++ gs)).all (· ≤ reachBytes) = true := hsz0
  have hW' := hW
  have hlt := hW.lt
  obtain ⟨p, q, hA0, hV, rfl, hfz, hnd⟩ := hW
  have hA : DataW.TrodAll enc Try.prog W 0 (fun _ => true) true Try.f5.params.toList args.toList ds p := hA0
  have hA1 := hA
  rw [Try.params5] at hA hval hsz
  obtain ⟨v0, v1, v2, v3, d0, d1, d2, d3, p0, p1, p2, p3, rfl, rfl, rfl, h0, h1, h2, h3⟩ := trodAll_four hA
  obtain ⟨rfl, rfl⟩ := trodVars_none hV
  clear hA0 hval0 hsz0
  obtain ⟨a_A, a_c, a, rfl, a_h1, a_h2, a_r, a_l, a_q⟩ := arg_slice unOps coOp rd_op (hval 0 22 v0 rfl rfl) h0 (fun b off h => hfz b off (by simp [h])) (fits_of hsz 0 rfl rfl)
  obtain ⟨b_A, b_c, b, rfl, b_h1, b_h2, b_r, b_l, b_q⟩ := arg_slice unOps coOp rd_op (hval 1 22 v1 rfl rfl) h1 (fun b off h => hfz b off (by simp [h])) (fits_of hsz 1 rfl rfl)
  obtain ⟨o, o_A, o_c, rfl, o_ok, o_h1, o_h2, o_r, o_q⟩ := arg_op (hval 2 33 v2 rfl rfl) h2 (fun b off h => hfz b off (by simp [h])) (fits_of hsz 2 rfl rfl)
  obtain ⟨m_A, m_c, m, rfl, m_h1, m_h2, m_r, m_l, m_q⟩ := arg_slice unTimess coTimes rd_times (hval 3 39 v3 rfl rfl) h3 (fun b off h => hfz b off (by simp [h])) (fits_of hsz 3 rfl rfl)
  simp only [List.append_nil] at hW' hlt
  refine (lawBagTells11 a_A b_A o_A m_A a_c b_c o_c m_c a b o m W (ops_len a_l) (ops_len b_l) a_h1 a_h2 (times_len m_l) m_q a_q a_r b_r ⟨o_ok, o_h1, o_h2, o_r⟩ m_r).mono fun e W' ⟨he, hg⟩ => ?_
  subst he
  exact ⟨_, rfl, post_bl2 (pa := p0 ++ p1 ++ p2 ++ p3) (pv := []) hW' hg (by simp) (fun _ _ _ => trodAll_cons_mk (shut_bool Try.underlying4 _) trodAll_mk0)
    (args_stay laidOutTry hg (by rw [Try.params5]; intro t ht; simp at ht; rcases ht with rfl | rfl | rfl; exact read_ops; exact read_op; exact read_timess) hA1 hlt) (fun _ _ => rfl)⟩

/-- The statement. -/
theorem bagTells_holds : Rows.BagTellsSaid :=
  OpenClaim.holds_of_wide 5 Try.f5 rfl rfl rfl rfl rfl rfl rfl ⟨rfl, rfl, rfl, rfl, rfl⟩ rfl rfl rfl rfl rfl (by kernel_rfl) Try.func5 (by kernel_rfl)
    (of_decide_eq_true (by kernel_rfl)) (by unfold Func.isWrapper; first | (rw [if_pos (by decide +kernel)]; kernel_rfl) | (rw [if_neg (by decide +kernel)]; exact ⟨rfl, rfl⟩))
    (fun os started H enc _ => bagTellsLifted os started H enc)

#print axioms bagTells_holds
end Go.Proofs.Ytedcopjpgijpjaa

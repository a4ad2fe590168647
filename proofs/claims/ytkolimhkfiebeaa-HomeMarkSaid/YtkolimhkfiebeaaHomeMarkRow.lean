/-
  The law HomeMark of layer 13 (package octavolaw13) returns true and leaves its arguments as they were: for every argument, with no condition.
-/
import Derived.Test.YtkolimhkfiebeaaHomeMark
import Derived.Test.YtkolimhkfiebeaaOpenRun
namespace Go.Proofs.Ytkolimhkfiebeaa
open Go.ChangeShapes Go.WideShapes Go.ChangeAt Go.RowKit

set_option maxRecDepth 100000 in
theorem homeMarkLifted (os : Os) (started : os.Started) (H : Type) (enc : TypeId × Value → H) :
    ReturnsInHanded {} Try.checked os 9 .any (Rows.homeMarkSpec.pre6 enc Try.prog Try.f9 Rows.homeMarkRow.domain false) (Rows.homeMarkSpec.post enc Try.prog Try.f9 false true false false) := by
  refine returnsInHanded_of_change_sized (C := Try.checked) ownKnobNone started (by kernel_rfl) Try.func9
    (ChangeSpec.witness6 (enc := enc) (C := Try.checked) false ⟨#[], #[.slice none 0 0, .agg #[.int .u8 0, .int .u32 0, .int .u8 0, .slice none 0 0, .int .i64 0], .slice none 0 0], []⟩ 8 (by kernel_rfl) (by kernel_rfl) (by kernel_rfl) (by kernel_rfl)) ?_
  intro W base args ds gs before hval0 hW hcnd0 hsz0 _
  have hval : ∀ (j : Nat) t v, Try.f9.params[j]? = some t → args[j]? = some v → Value.okWide Try.prog W .any base t v := hval0
  have hsz : (DataW.weightsEach Try.prog (Try.f9.params.toList ++ Rows.homeMarkSpec.plain.varTypes Try.prog) (ds ++ gs)).all (· ≤ reachBytes) = true := hsz0
  have hW' := hW
  have hlt := hW.lt
  obtain ⟨p, q, hA0, hV, rfl, hfz, hnd⟩ := hW
  have hA : DataW.TrodAll enc Try.prog W 0 (fun _ => true) true Try.f9.params.toList args.toList ds p := hA0
  have hA1 := hA
  rw [Try.params9] at hA hval hsz
  obtain ⟨v0, v1, v2, d0, d1, d2, p0, p1, p2, rfl, rfl, rfl, h0, h1, h2⟩ := trodAll_three hA
  obtain ⟨rfl, rfl⟩ := trodVars_none hV
  clear hA0 hval0 hsz0
  obtain ⟨l_A, l_c, l, rfl, l_h1, l_h2, l_r, l_l, l_q⟩ := arg_slice unOps coOp rd_op (hval 0 33 v0 rfl rfl) h0 (fun b off h => hfz b off (by simp [h])) (fits_of hsz 0 rfl rfl)
  obtain ⟨o, o_A, o_c, rfl, o_ok, o_h1, o_h2, o_r, o_q⟩ := arg_op (hval 1 68 v1 rfl rfl) h1 (fun b off h => hfz b off (by simp [h])) (fits_of hsz 1 rfl rfl)
  obtain ⟨p_A, p_c, p, rfl, p_h1, p_h2, p_r, p_l, p_q⟩ := arg_slice unRuns coRun rd_run (hval 2 34 v2 rfl rfl) h2 (fun b off h => hfz b off (by simp [h])) (fits_of hsz 2 rfl rfl)
  simp only [List.append_nil] at hW' hlt
  refine (lawHomeMark13 l_A o_A p_A l_c o_c p_c l o p W (ops_len l_l) (Nat.le_trans p_h1 p_h2) l_r ⟨o_ok, o_h1, o_h2, o_r⟩ p_r).mono fun e W' ⟨he, hg⟩ => ?_
  subst he
  exact ⟨_, rfl, post_bl2 (pa := p0 ++ p1 ++ p2) (pv := []) hW' hg (by simp) (fun _ _ _ => trodAll_cons_mk (shut_bool Try.underlying4 _) trodAll_mk0)
    (args_stay laidOutTry hg (by rw [Try.params9]; intro t ht; simp at ht; rcases ht with rfl | rfl | rfl; exact read_ops; exact read_op; exact read_runs) hA1 hlt) (fun _ _ => rfl)⟩

/-- The statement. -/
theorem homeMark_holds : Rows.HomeMarkSaid :=
  OpenClaim.holds_of_wide 9 Try.f9 rfl rfl rfl rfl rfl rfl rfl ⟨rfl, rfl, rfl, rfl, rfl⟩ rfl rfl rfl rfl rfl (by kernel_rfl) Try.func9 (by kernel_rfl)
    (of_decide_eq_true (by kernel_rfl)) (by unfold Func.isWrapper; first | (rw [if_pos (by decide +kernel)]; kernel_rfl) | (rw [if_neg (by decide +kernel)]; exact ⟨rfl, rfl⟩))
    (fun os started H enc _ => homeMarkLifted os started H enc)

#print axioms homeMark_holds
end Go.Proofs.Ytkolimhkfiebeaa

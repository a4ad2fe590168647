/-
  The law BagOrder of layer 11 (package octavolaw11) returns true and leaves its arguments as they were: for every argument, with no condition.
-/
import Derived.Test.YtedcopjpgijpjaaBagOrder
import Derived.Test.YtedcopjpgijpjaaOpenOp
namespace Go.Proofs.Ytedcopjpgijpjaa
open Go.ChangeShapes Go.WideShapes Go.ChangeAt Go.RowKit

set_option maxRecDepth 100000 in
theorem bagOrderLifted (os : Os) (started : os.Started) (H : Type) (enc : TypeId × Value → H) :
    ReturnsInHanded {} Try.checked os 3 .any (Rows.bagOrderSpec.pre6 enc Try.prog Try.f3 Rows.bagOrderRow.domain false) (Rows.bagOrderSpec.post enc Try.prog Try.f3 false true false false) := by
  refine returnsInHanded_of_change_sized (C := Try.checked) ownKnobNone started (by kernel_rfl) Try.func3
    (ChangeSpec.witness6 (enc := enc) (C := Try.checked) false ⟨#[], #[.slice none 0 0, .int .i64 0], []⟩ 8 (by kernel_rfl) (by kernel_rfl) (by kernel_rfl) (by kernel_rfl)) ?_
  intro W base args ds gs before hval0 hW hcnd0 hsz0 _
  have hval : ∀ (j : Nat) t v, Try.f3.params[j]? = some t → args[j]? = some v → Value.okWide Try.prog W .any base t v := hval0
  have hsz : (DataW.weightsEach Try.prog (Try.f3.params.toList ++ Rows.bagOrderSpec.plain.varTypes Try.prog) (ds ++ gs)).all (· ≤ reachBytes) = true := hsz0
  have hW' := hW
  have hlt := hW.lt
  obtain ⟨p, q, hA0, hV, rfl, hfz, hnd⟩ := hW
  have hA : DataW.TrodAll enc Try.prog W 0 (fun _ => true) true Try.f3.params.toList args.toList ds p := hA0
  have hA1 := hA
  rw [Try.params3] at hA hval hsz
  obtain ⟨v0, v1, d0, d1, p0, p1, rfl, rfl, rfl, h0, h1⟩ := trodAll_two hA
  obtain ⟨rfl, rfl⟩ := trodVars_none hV
  clear hA0 hval0 hsz0
  obtain ⟨l_A, l_c, l, rfl, l_h1, l_h2, l_r, l_l, l_q⟩ := arg_slice unOps coOp rd_op (hval 0 22 v0 rfl rfl) h0 (fun b off h => hfz b off (by simp [h])) (fits_of hsz 0 rfl rfl)
  obtain ⟨many, rfl, many_ok⟩ := arg_int (hval 1 3 v1 rfl rfl) h1 (fun b off h => hfz b off (by simp [h])) (fits_of hsz 1 rfl rfl)
  simp only [List.append_nil] at hW' hlt
  refine (lawBagOrder11 l_A l_c l many W (ops_len l_l) l_h1 l_h2 l_r many_ok).mono fun e W' ⟨he, hg⟩ => ?_
  subst he
  exact ⟨_, rfl, post_bl2 (pa := p0 ++ p1) (pv := []) hW' hg (by simp) (fun _ _ _ => trodAll_cons_mk (shut_bool Try.underlying4 _) trodAll_mk0)
    (args_stay laidOutTry hg (by rw [Try.params3]; intro t ht; simp at ht; rcases ht with rfl | rfl; exact read_ops; exact read_int) hA1 hlt) (fun _ _ => rfl)⟩

/-- The statement. -/
theorem bagOrder_holds : Rows.BagOrderSaid :=
  OpenClaim.holds_of_wide 3 Try.f3 rfl rfl rfl rfl rfl rfl rfl ⟨rfl, rfl, rfl, rfl, rfl⟩ rfl rfl rfl rfl rfl (by kernel_rfl) Try.func3 (by kernel_rfl)
    (of_decide_eq_true (by kernel_rfl)) (by unfold Func.isWrapper; first | (rw [if_pos (by decide +kernel)]; kernel_rfl) | (rw [if_neg (by decide +kernel)]; exact ⟨rfl, rfl⟩))
    (fun os started H enc _ => bagOrderLifted os started H enc)

#print axioms bagOrder_holds
end Go.Proofs.Ytedcopjpgijpjaa

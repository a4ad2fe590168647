/-
  The law SpanAdds of layer 07 (package octavolaw07) returns true and leaves its arguments as they were: for every argument, with no condition.
-/
import Derived.Test.YtiimpmdnkjhcoaaSpanLaw3
import Derived.Test.YtiimpmdnkjhcoaaOpenSpan
namespace Go.Proofs.Ytiimpmdnkjhcoaa
open Go.ChangeShapes Go.WideShapes Go.ChangeAt Go.RowKit

set_option maxRecDepth 100000 in
theorem spanAddsLifted (os : Os) (started : os.Started) (H : Type) (enc : TypeId × Value → H) :
    ReturnsInHanded {} Try.checked os 7 .any (Rows.spanAddsSpec.pre6 enc Try.prog Try.f7 Rows.spanAddsRow.domain false) (Rows.spanAddsSpec.post enc Try.prog Try.f7 false true false false) := by
  refine returnsInHanded_of_change_sized (C := Try.checked) ownKnobNone started (by kernel_rfl) Try.func7
    (ChangeSpec.witness6 (enc := enc) (C := Try.checked) false ⟨#[], #[.slice none 0 0, .int .u32 0, .int .u32 0], []⟩ 8 (by kernel_rfl) (by kernel_rfl) (by kernel_rfl) (by kernel_rfl)) ?_
  intro W base args ds gs before hval0 hW hcnd0 hsz0 _
  have hval : ∀ (j : Nat) t v, Try.f7.params[j]? = some t → args[j]? = some v → Value.okWide Try.prog W .any base t v := hval0
  have hsz : (DataW.weightsEach Try.prog (Try.f7.params.toList ++ Rows.spanAddsSpec.plain.varTypes Try.prog) (ds ++ gs)).all (· ≤ reachBytes) = true := hsz0
  have hW' := hW
  have hlt := hW.lt
  obtain ⟨p, q, hA0, hV, rfl, hfz, hnd⟩ := hW
  have hA : DataW.TrodAll enc Try.prog W 0 (fun _ => true) true Try.f7.params.toList args.toList ds p := hA0
  have hA1 := hA
  rw [Try.params7] at hA hval hsz
  obtain ⟨v0, v1, v2, d0, d1, d2, p0, p1, p2, rfl, rfl, rfl, h0, h1, h2⟩ := trodAll_three hA
  obtain ⟨rfl, rfl⟩ := trodVars_none hV
  clear hA0 hval0 hsz0
  obtain ⟨a_A, a_c, a, rfl, a_h1, a_h2, a_r, a_l, -⟩ := arg_slice unSpans coSpan rd_span (hval 0 22 v0 rfl rfl) h0 (fun b off h => hfz b off (by simp [h])) (fits_of hsz 0 rfl rfl)
  obtain ⟨f, rfl, f_ok⟩ := arg_u32 (hval 1 23 v1 rfl rfl) h1 (fun b off h => hfz b off (by simp [h])) (fits_of hsz 1 rfl rfl)
  obtain ⟨t, rfl, t_ok⟩ := arg_u32 (hval 2 23 v2 rfl rfl) h2 (fun b off h => hfz b off (by simp [h])) (fits_of hsz 2 rfl rfl)
  simp only [List.append_nil] at hW' hlt
  refine (lawSpanAdds07 a_A a_c a f t W (spans_len a_l) ⟨f_ok.1, f_ok.2, t_ok.1, t_ok.2⟩ a_r).mono fun e W' ⟨he, hg⟩ => ?_
  subst he
  exact ⟨_, rfl, post_bl2 (pa := p0 ++ p1 ++ p2) (pv := []) hW' hg (by simp) (fun _ _ _ => trodAll_cons_mk (shut_bool Try.underlying4 _) trodAll_mk0)
    (args_stay laidOutTry hg (by rw [Try.params7]; intro t ht; simp at ht; rcases ht with rfl | rfl; exact read_spans; exact read_u32) hA1 hlt) (fun _ _ => rfl)⟩

/-- The statement. -/
theorem spanAdds_holds : Rows.SpanAddsSaid :=
  OpenClaim.holds_of_wide 7 Try.f7 rfl rfl rfl rfl rfl rfl rfl ⟨rfl, rfl, rfl, rfl, rfl⟩ rfl rfl rfl rfl rfl (by kernel_rfl) Try.func7 (by kernel_rfl)
    (of_decide_eq_true (by kernel_rfl)) (by unfold Func.isWrapper; first | (rw [if_pos (by decide +kernel)]; kernel_rfl) | (rw [if_neg (by decide +kernel)]; exact ⟨rfl, rfl⟩))
    (fun os started H enc _ => spanAddsLifted os started H enc)

#print axioms spanAdds_holds
end Go.Proofs.Ytiimpmdnkjhcoaa

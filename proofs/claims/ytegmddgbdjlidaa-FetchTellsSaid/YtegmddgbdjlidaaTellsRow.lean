/-
  The law FetchTells of layer 22 (package octavolaw22) returns true and leaves its arguments as they were: for every entry, manifest, number and list of stamps, with no condition.
-/
import Derived.Test.YtegmddgbdjlidaaTells22
import Derived.Test.YtegmddgbdjlidaaOpen2
namespace Go.Proofs.Ytegmddgbdjlidaa
open Go.ChangeShapes Go.WideShapes Go.ChangeAt Go.RowKit

set_option maxRecDepth 100000 in
theorem tellsLifted (os : Os) (started : os.Started) (H : Type) (enc : TypeId × Value → H) :
    ReturnsInHanded {} Try.checked os 5 .any (Rows.fetchTellsSpec.pre6 enc Try.prog Try.f5 Rows.fetchTellsRow.domain false) (Rows.fetchTellsSpec.post enc Try.prog Try.f5 false true false false) := by
  refine returnsInHanded_of_change_sized (C := Try.checked) ownKnobNone started (by kernel_rfl) Try.func5
    (ChangeSpec.witness6 (enc := enc) (C := Try.checked) false ⟨#[], #[.agg #[.int .u32 0, .int .u8 0, .bool false, .bool false, .int .i64 0, .bool false, .slice none 0 0, .slice none 0 0], .slice none 0 0, .int .i64 0, .slice none 0 0], []⟩ 8 (by kernel_rfl) (by kernel_rfl) (by kernel_rfl) (by kernel_rfl)) ?_
  intro W base args ds gs before hval0 hW hcnd0 hsz0 _
  have hval : ∀ (j : Nat) t v, Try.f5.params[j]? = some t → args[j]? = some v → Value.okWide Try.prog W .any base t v := hval0
  have hsz : (DataW.weightsEach Try.prog (Try.f5.params.toList ++ Rows.fetchTellsSpec.plain.varTypes Try.prog) (ds ++ gs)).all (· ≤ reachBytes) = true := hsz0
  have hW' := hW
  have hlt := hW.lt
  obtain ⟨p, q, hA0, hV, rfl, hfz, hnd⟩ := hW
  have hA : DataW.TrodAll enc Try.prog W 0 (fun _ => true) true Try.f5.params.toList args.toList ds p := hA0
  have hA1 := hA
  rw [Try.params5] at hA hval hsz
  obtain ⟨v0, v1, v2, v3, d0, d1, d2, d3, p0, p1, p2, p3, rfl, rfl, rfl, h0, h1, h2, h3⟩ := trodAll_four hA
  obtain ⟨rfl, rfl⟩ := trodVars_none hV
  clear hA0 hval0 hsz0
  obtain ⟨x, A, c, B, d, rfl, hx, l1, l2, l3, l4, hS, hG, hQ⟩ := arg_entry (hval 0 31 v0 rfl rfl) h0 (fun b off h => hfz b off (by simp [h])) (fits_of hsz 0 rfl rfl)
  obtain ⟨C, k, a, rfl, m1, m2, hC, hca, hqa⟩ := arg_slice unTimess coTimes rd_times (hval 1 28 v1 rfl rfl) h1 (fun b off h => hfz b off (by simp [h])) (fits_of hsz 1 rfl rfl)
  obtain ⟨n, rfl, hn⟩ := arg_int (hval 2 3 v2 rfl rfl) h2 (fun b off h => hfz b off (by simp [h])) (fits_of hsz 2 rfl rfl)
  obtain ⟨D, l, b, rfl, n1, n2, hD, hcb, -⟩ := arg_slice unIds coId rd_id (hval 3 45 v3 rfl rfl) h3 (fun b off h => hfz b off (by simp [h])) (fits_of hsz 3 rfl rfl)
  simp only [List.append_nil] at hW' hlt
  refine (fetchTells x a n b A B C D c d k l W hx ⟨l1, l2, l3, l4, hS, hG⟩ hQ hn (times_len hca) hqa (ids_len hcb) hC hD).mono fun e W' ⟨he, hg⟩ => ?_
  subst he
  exact ⟨_, rfl, post_bl2 (pa := p0 ++ p1 ++ p2 ++ p3) (pv := []) hW' hg (by simp) (fun _ _ _ => trodAll_cons_mk (shut_bool Try.underlying4 _) trodAll_mk0)
    (args_stay laidOutTry hg (by rw [Try.params5]; intro t ht; simp at ht; rcases ht with rfl | rfl | rfl | rfl; exact read_entry; exact read_timess; exact read_int; exact read_ids) hA1 hlt) (fun _ _ => rfl)⟩

/-- The statement. -/
theorem fetchTells_holds : Rows.FetchTellsSaid :=
  OpenClaim.holds_of_wide 5 Try.f5 rfl rfl rfl rfl rfl rfl rfl ⟨rfl, rfl, rfl, rfl, rfl⟩ rfl rfl rfl rfl rfl (by kernel_rfl) Try.func5 (by kernel_rfl)
    (of_decide_eq_true (by kernel_rfl)) (by unfold Func.isWrapper; first | (rw [if_pos (by decide +kernel)]; kernel_rfl) | (rw [if_neg (by decide +kernel)]; exact ⟨rfl, rfl⟩))
    (fun os started H enc _ => tellsLifted os started H enc)

#print axioms fetchTells_holds
end Go.Proofs.Ytegmddgbdjlidaa

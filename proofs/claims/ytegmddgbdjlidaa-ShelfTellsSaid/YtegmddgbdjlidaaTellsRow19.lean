/-
  The law ShelfTells of layer 19 (package octavolaw19) returns true and leaves its arguments as they were: for every argument, with no condition.
-/
import Derived.Test.YtegmddgbdjlidaaTells19m
import Derived.Test.YtegmddgbdjlidaaOpen2
namespace Go.Proofs.Ytegmddgbdjlidaa
open Go.ChangeShapes Go.WideShapes Go.ChangeAt Go.RowKit

set_option maxRecDepth 100000 in
theorem shelfTellsLifted (os : Os) (started : os.Started) (H : Type) (enc : TypeId × Value → H) :
    ReturnsInHanded {} Try.checked os 10 .any (Rows.shelfTellsSpec.pre6 enc Try.prog Try.f10 Rows.shelfTellsRow.domain false) (Rows.shelfTellsSpec.post enc Try.prog Try.f10 false true false false) := by
  refine returnsInHanded_of_change_sized (C := Try.checked) ownKnobNone started (by kernel_rfl) Try.func10
    (ChangeSpec.witness6 (enc := enc) (C := Try.checked) false ⟨#[], #[.slice none 0 0, .agg #[.int .u32 0, .int .u8 0, .bool false, .bool false, .int .i64 0, .bool false, .slice none 0 0, .slice none 0 0], .agg #[.int .u32 0, .int .u8 0], .slice none 0 0], []⟩ 8 (by kernel_rfl) (by kernel_rfl) (by kernel_rfl) (by kernel_rfl)) ?_
  intro W base args ds gs before hval0 hW hcnd0 hsz0 _
  have hval : ∀ (j : Nat) t v, Try.f10.params[j]? = some t → args[j]? = some v → Value.okWide Try.prog W .any base t v := hval0
  have hsz : (DataW.weightsEach Try.prog (Try.f10.params.toList ++ Rows.shelfTellsSpec.plain.varTypes Try.prog) (ds ++ gs)).all (· ≤ reachBytes) = true := hsz0
  have hW' := hW
  have hlt := hW.lt
  obtain ⟨p, q, hA0, hV, rfl, hfz, hnd⟩ := hW
  have hA : DataW.TrodAll enc Try.prog W 0 (fun _ => true) true Try.f10.params.toList args.toList ds p := hA0
  have hA1 := hA
  rw [Try.params10] at hA hval hsz
  obtain ⟨v0, v1, v2, v3, d0, d1, d2, d3, p0, p1, p2, p3, rfl, rfl, rfl, h0, h1, h2, h3⟩ := trodAll_four hA
  obtain ⟨rfl, rfl⟩ := trodVars_none hV
  clear hA0 hval0 hsz0
  obtain ⟨l_A, l_c, l, rfl, -, -, l_r, l_l, l_q⟩ := arg_slice unEntries coEntry rd_entry (hval 0 22 v0 rfl rfl) h0 (fun b off h => hfz b off (by simp [h])) (fits_of hsz 0 rfl rfl)
  obtain ⟨x, x_A, x_c, x_B, x_d, rfl, x_ok, l1, l2, l3, l4, x_S, x_G, x_q⟩ := arg_entry (hval 1 31 v1 rfl rfl) h1 (fun b off h => hfz b off (by simp [h])) (fits_of hsz 1 rfl rfl)
  obtain ⟨s, rfl, s_ok⟩ := arg_id (hval 2 25 v2 rfl rfl) h2 (fun b off h => hfz b off (by simp [h])) (fits_of hsz 2 rfl rfl)
  obtain ⟨keep_A, keep_c, keep, rfl, -, -, keep_r, keep_l, -⟩ := arg_slice unIds coId rd_id (hval 3 45 v3 rfl rfl) h3 (fun b off h => hfz b off (by simp [h])) (fits_of hsz 3 rfl rfl)
  simp only [List.append_nil] at hW' hlt
  refine (shelfTells19 l x s keep l_A x_A x_B keep_A l_c x_c x_d keep_c W (entries_len l_l) l_q l_r x_ok ⟨l1, l2, l3, l4, x_S, x_G⟩ x_q s_ok (ids_len keep_l) keep_r).mono fun e W' ⟨he, hg⟩ => ?_
  subst he
  exact ⟨_, rfl, post_bl2 (pa := p0 ++ p1 ++ p2 ++ p3) (pv := []) hW' hg (by simp) (fun _ _ _ => trodAll_cons_mk (shut_bool Try.underlying4 _) trodAll_mk0)
    (args_stay laidOutTry hg (by rw [Try.params10]; intro t ht; simp at ht; rcases ht with rfl | rfl | rfl | rfl; exact read_entries; exact read_entry; exact read_id; exact read_ids) hA1 hlt) (fun _ _ => rfl)⟩

/-- The statement. -/
theorem shelfTells_holds : Rows.ShelfTellsSaid :=
  OpenClaim.holds_of_wide 10 Try.f10 rfl rfl rfl rfl rfl rfl rfl ⟨rfl, rfl, rfl, rfl, rfl⟩ rfl rfl rfl rfl rfl (by kernel_rfl) Try.func10 (by kernel_rfl)
    (of_decide_eq_true (by kernel_rfl)) (by unfold Func.isWrapper; first | (rw [if_pos (by decide +kernel)]; kernel_rfl) | (rw [if_neg (by decide +kernel)]; exact ⟨rfl, rfl⟩))
    (fun os started H enc _ => shelfTellsLifted os started H enc)

#print axioms shelfTells_holds
end Go.Proofs.Ytegmddgbdjlidaa

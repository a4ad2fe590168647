/-
  The law ShiftTells of layer 20 (package octavolaw20) returns true and leaves its arguments as they were: for every argument, with no condition.
-/
import Derived.Test.YteoodmilcpmmpaaGreatTells20
import Derived.Test.YteoodmilcpmmpaaGreatOpenR
namespace Go.Proofs.YteoodmilcpmmpaaGreat

open Go.ChangeShapes Go.WideShapes Go.ChangeAt Go.RowKit

set_option maxRecDepth 100000 in
theorem shiftTellsLifted (os : Os) (started : os.Started) (H : Type) (enc : TypeId × Value → H) :
    ReturnsInHanded {} Tryz.checked os 6 .any (Rows.shiftTellsSpec.pre6 enc Tryz.prog Tryz.f6 Rows.shiftTellsRow.domain false) (Rows.shiftTellsSpec.post enc Tryz.prog Tryz.f6 false true false false) := by
  refine returnsInHanded_of_change_sized (C := Tryz.checked) ownKnobNone started (by kernel_rfl) Tryz.func6
    (ChangeSpec.witness6 (enc := enc) (C := Tryz.checked) false ⟨#[], #[.slice none 0 0, .slice none 0 0, .agg #[.int .u8 0, .int .u32 0, .int .u8 0, .slice none 0 0, .int .i64 0]], []⟩ 8 (by kernel_rfl) (by kernel_rfl) (by kernel_rfl) (by kernel_rfl)) ?_
  intro W base args ds gs before hval0 hW hcnd0 hsz0 _
  have hval : ∀ (j : Nat) t v, Tryz.f6.params[j]? = some t → args[j]? = some v → Value.okWide Tryz.prog W .any base t v := hval0
  have hsz : (DataW.weightsEach Tryz.prog (Tryz.f6.params.toList ++ Rows.shiftTellsSpec.plain.varTypes Tryz.prog) (ds ++ gs)).all (· ≤ reachBytes) = true := hsz0
  have hW' := hW
  have hlt := hW.lt
  obtain ⟨p, q, hA0, hV, rfl, hfz, hnd⟩ := hW
  have hA : DataW.TrodAll enc Tryz.prog W 0 (fun _ => true) true Tryz.f6.params.toList args.toList ds p := hA0
  have hA1 := hA
  rw [Tryz.params6] at hA hval hsz
  obtain ⟨v0, v1, v2, d0, d1, d2, p0, p1, p2, rfl, rfl, rfl, h0, h1, h2⟩ := trodAll_three hA
  obtain ⟨rfl, rfl⟩ := trodVars_none hV
  clear hA0 hval0 hsz0
  obtain ⟨l_A, l_c, l, rfl, l_h1, l_h2, l_r, l_l, l_q⟩ := arg_slice unOps coOp rd_op (hval 0 22 v0 rfl rfl) h0 (fun b off h => hfz b off (by simp [h])) (fits_of hsz 0 rfl rfl)
  obtain ⟨h_A, h_c, h, rfl, h_h1, h_h2, h_r, h_l, h_q⟩ := arg_slice unEntries coEntry rd_entry (hval 1 56 v1 rfl rfl) h1 (fun b off h => hfz b off (by simp [h])) (fits_of hsz 1 rfl rfl)
  obtain ⟨o, o_A, o_c, rfl, o_ok, o_h1, o_h2, o_r, o_q⟩ := arg_op (hval 2 47 v2 rfl rfl) h2 (fun b off h => hfz b off (by simp [h])) (fits_of hsz 2 rfl rfl)
  simp only [List.append_nil] at hW' hlt
  refine (shiftTells20 l_A h_A o_A l_c h_c o_c l h o W (ops_len l_l) (entries_len h_l) h_q l_h1 l_h2 h_h1 h_h2 l_r h_r ⟨o_ok, o_h1, o_h2, o_r⟩).mono fun e W' ⟨he, hg⟩ => ?_
  subst he
  exact ⟨_, rfl, post_bl2 (pa := p0 ++ p1 ++ p2) (pv := []) hW' hg (by simp) (fun _ _ _ => trodAll_cons_mk (shut_bool Tryz.underlying4 _) trodAll_mk0)
    (args_stay laidOutTry hg (by rw [Tryz.params6]; intro t ht; simp at ht; rcases ht with rfl | rfl | rfl; exact read_ops; exact read_entries; exact read_op) hA1 hlt) (fun _ _ => rfl)⟩

/-- The statement. -/
theorem shiftTells_holds : Rows.ShiftTellsSaid :=
  OpenClaim.holds_of_wide 6 Tryz.f6 rfl rfl rfl rfl rfl rfl rfl ⟨rfl, rfl, rfl, rfl, rfl⟩ rfl rfl rfl rfl rfl (by kernel_rfl) Tryz.func6 (by kernel_rfl)
    (of_decide_eq_true (by kernel_rfl)) (by unfold Func.isWrapper; first | (rw [if_pos (by decide +kernel)]; kernel_rfl) | (rw [if_neg (by decide +kernel)]; exact ⟨rfl, rfl⟩))
    (fun os started H enc _ => shiftTellsLifted os started H enc)

#print axioms shiftTells_holds

end Go.Proofs.YteoodmilcpmmpaaGreat

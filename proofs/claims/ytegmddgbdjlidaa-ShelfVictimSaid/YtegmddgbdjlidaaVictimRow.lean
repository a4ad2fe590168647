/-
  The law ShelfVictim of layer 19 (package octavolaw19) returns true and leaves its arguments as they were: for every shelf and every list of sections, with no condition.
-/
import Derived.Test.YtegmddgbdjlidaaVict19
import Derived.Test.YtegmddgbdjlidaaOpen2
namespace Go.Proofs.Ytegmddgbdjlidaa
open Go.ChangeShapes Go.WideShapes Go.ChangeAt Go.RowKit

set_option maxRecDepth 100000 in
theorem victimLifted (os : Os) (started : os.Started) (H : Type) (enc : TypeId × Value → H) :
    ReturnsInHanded {} Try.checked os 8 .any (Rows.shelfVictimSpec.pre6 enc Try.prog Try.f8 Rows.shelfVictimRow.domain false) (Rows.shelfVictimSpec.post enc Try.prog Try.f8 false true false false) := by
  refine returnsInHanded_of_change_sized (C := Try.checked) ownKnobNone started (by kernel_rfl) Try.func8
    (ChangeSpec.witness6 (enc := enc) (C := Try.checked) false ⟨#[], #[.slice none 0 0, .slice none 0 0], []⟩ 8 (by kernel_rfl) (by kernel_rfl) (by kernel_rfl) (by kernel_rfl)) ?_
  intro W base args ds gs before hval0 hW hcnd0 hsz0 _
  have hval : ∀ (j : Nat) t v, Try.f8.params[j]? = some t → args[j]? = some v → Value.okWide Try.prog W .any base t v := hval0
  have hsz : (DataW.weightsEach Try.prog (Try.f8.params.toList ++ Rows.shelfVictimSpec.plain.varTypes Try.prog) (ds ++ gs)).all (· ≤ reachBytes) = true := hsz0
  have hW' := hW
  have hlt := hW.lt
  obtain ⟨p, q, hA0, hV, rfl, hfz, hnd⟩ := hW
  have hA : DataW.TrodAll enc Try.prog W 0 (fun _ => true) true Try.f8.params.toList args.toList ds p := hA0
  have hA1 := hA
  rw [Try.params8] at hA hval hsz
  obtain ⟨v0, v1, d0, d1, p0, p1, rfl, rfl, rfl, h0, h1⟩ := trodAll_two hA
  obtain ⟨rfl, rfl⟩ := trodVars_none hV
  clear hA0 hval0 hsz0
  obtain ⟨A, c, a, rfl, -, -, hA2, hca, hqa⟩ := arg_slice unEntries coEntry rd_entry (hval 0 22 v0 rfl rfl) h0 (fun b off h => hfz b off (by simp [h])) (fits_of hsz 0 rfl rfl)
  obtain ⟨K, kc, keep, rfl, -, -, hK2, hck, -⟩ := arg_slice unIds coId rd_id (hval 1 45 v1 rfl rfl) h1 (fun b off h => hfz b off (by simp [h])) (fits_of hsz 1 rfl rfl)
  simp only [List.append_nil] at hW' hlt
  refine (shelfVict19 A K c kc a keep W (entries_len hca) (ids_len hck) hqa hA2 hK2).mono fun e W' ⟨he, hg⟩ => ?_
  subst he
  exact ⟨_, rfl, post_bl2 (pa := p0 ++ p1) (pv := []) hW' hg (by simp) (fun _ _ _ => trodAll_cons_mk (shut_bool Try.underlying4 _) trodAll_mk0)
    (args_stay laidOutTry hg (by rw [Try.params8]; intro t ht; simp at ht; rcases ht with rfl | rfl; exact read_entries; exact read_ids) hA1 hlt) (fun _ _ => rfl)⟩

/-- The statement. -/
theorem shelfVictim_holds : Rows.ShelfVictimSaid :=
  OpenClaim.holds_of_wide 8 Try.f8 rfl rfl rfl rfl rfl rfl rfl ⟨rfl, rfl, rfl, rfl, rfl⟩ rfl rfl rfl rfl rfl (by kernel_rfl) Try.func8 (by kernel_rfl)
    (of_decide_eq_true (by kernel_rfl)) (by unfold Func.isWrapper; first | (rw [if_pos (by decide +kernel)]; kernel_rfl) | (rw [if_neg (by decide +kernel)]; exact ⟨rfl, rfl⟩))
    (fun os started H enc _ => victimLifted os started H enc)

#print axioms shelfVictim_holds
end Go.Proofs.Ytegmddgbdjlidaa

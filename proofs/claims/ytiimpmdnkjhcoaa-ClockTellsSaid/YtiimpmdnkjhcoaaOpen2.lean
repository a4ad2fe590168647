/-
  More kinds of arguments opened: whole numbers, stamps, lists of them, lists of entries.
-/
import Derived.Test.YtiimpmdnkjhcoaaPost2
namespace Go.Proofs.Ytiimpmdnkjhcoaa
open Go.ChangeShapes Go.WideShapes Go.ChangeAt Go.RowKit Go.Deep

section

variable {H : Type} {enc : TypeId × Value → H} {w : World}

theorem unIds : Try.prog.underlying 61 = some (.slice 39) := by kernel_rfl

theorem byI : Try.prog.bytesOf 3 = 8 := by kernel_rfl

theorem byId : Try.prog.bytesOf 39 = 8 := by kernel_rfl

theorem ints_len {n : Nat} (h : n * Try.prog.bytesOf 3 ≤ reachBytes) : n ≤ 140737488355328 := by
  rw [byI] at h
  unfold reachBytes at h
  omega

theorem ids_len {n : Nat} (h : n * Try.prog.bytesOf 39 ≤ reachBytes) : n ≤ 140737488355328 := by
  rw [byId] at h
  unfold reachBytes at h
  omega

theorem read_ids : Try.prog.readableRec 61 = true ∧ 61 < Try.prog.types.size := ⟨by kernel_rfl, of_decide_eq_true (by kernel_rfl)⟩

theorem read_int : Try.prog.readableRec 3 = true ∧ 3 < Try.prog.types.size := ⟨by kernel_rfl, of_decide_eq_true (by kernel_rfl)⟩

theorem read_id : Try.prog.readableRec 39 = true ∧ 39 < Try.prog.types.size := ⟨by kernel_rfl, of_decide_eq_true (by kernel_rfl)⟩

theorem unId : ∃ fs, Try.prog.underlying 39 = some (.struct fs) := by
  have h := fieldsId
  unfold fieldsOf at h
  generalize Try.prog.underlying 39 = u at h
  split at h
  · exact ⟨_, rfl⟩
  · cases h

set_option maxRecDepth 100000 in
theorem arg_id {r : Reach} {b0 : Nat} {v : Value} {d : DataW H} {p : List MemPlace} (hv : Value.okWide Try.prog w r b0 39 v)
    (h : DataW.Trod enc Try.prog w 0 (fun _ => true) true 39 v d p) (hz : w.noneFrozen p) (hq : Fits 39 d) :
    ∃ x : Id, v = .agg #[.int .u32 x.t, .int .u8 x.r] ∧ x.ok := by
  obtain ⟨fs, hs⟩ := unId
  obtain ⟨cs, rfl, _⟩ := okWide_struct hs hv
  obtain ⟨fuel, h⟩ := h
  obtain ⟨x, ⟨hx, e⟩, _⟩ := rd_id _ _ _ h hz hq
  refine ⟨x, ?_, hx⟩
  obtain ⟨l⟩ := cs
  simp only [Value.cells] at e
  rw [e]

end

section

variable {H : Type} {enc : TypeId × Value → H} {w : World}

set_option maxRecDepth 100000 in
theorem arg_int {r : Reach} {b0 : Nat} {v : Value} {d : DataW H} {p : List MemPlace} (hv : Value.okWide Try.prog w r b0 3 v)
    (h : DataW.Trod enc Try.prog w 0 (fun _ => true) true 3 v d p) (hz : w.noneFrozen p) (hq : Fits 3 d) : ∃ n : Int, v = .int .i64 n ∧ i64ok n := by
  obtain ⟨n, rfl⟩ := okWide_int Try.underlying3 hv
  obtain ⟨fuel, h⟩ := h
  obtain ⟨x, ⟨hx, e⟩, _⟩ := rd_int _ _ _ h hz hq
  simp [Value.cells] at e
  subst e
  exact ⟨n, rfl, hx⟩

/-- Four arguments. -/
theorem trodAll_four {P : Program} {base : Nat} {spare : Nat → Bool} {held : Bool} {ta tb tc td : TypeId} {args : Array Value} {ds : List (DataW H)} {ps : List MemPlace} (h : DataW.TrodAll enc P w base spare held [ta, tb, tc, td] args.toList ds ps) :
    ∃ va vb vc vd da db dc dd pa pb pc pd, args = #[va, vb, vc, vd] ∧ ds = [da, db, dc, dd] ∧ ps = pa ++ pb ++ pc ++ pd ∧ DataW.Trod enc P w base spare held ta va da pa ∧ DataW.Trod enc P w base spare held tb vb db pb ∧ DataW.Trod enc P w base spare held tc vc dc pc ∧ DataW.Trod enc P w base spare held td vd dd pd := by
  obtain ⟨va, vs, da, ds', pa, q, hargs, rfl, rfl, h1, h2⟩ := trodAll_cons h
  obtain ⟨vb, vs', db, ds', pb, q, rfl, rfl, rfl, h3, h4⟩ := trodAll_cons h2
  obtain ⟨vc, vs', dc, ds', pc, q, rfl, rfl, rfl, h5, h6⟩ := trodAll_cons h4
  obtain ⟨vd, vs', dd, ds', pd, q, rfl, rfl, rfl, h7, h8⟩ := trodAll_cons h6
  obtain ⟨rfl, rfl, rfl⟩ := trodAll_nil h8
  exact ⟨va, vb, vc, vd, da, db, dc, dd, pa, pb, pc, pd, by cases args; simp_all, rfl, by simp, h1, h3, h5, h7⟩

end

end Go.Proofs.Ytiimpmdnkjhcoaa

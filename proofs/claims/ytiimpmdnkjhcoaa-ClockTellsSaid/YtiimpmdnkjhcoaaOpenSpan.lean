/-
  Arguments opened: lists of spans, times.
-/
import Derived.Test.YtiimpmdnkjhcoaaPost2
import Derived.Test.YtiimpmdnkjhcoaaOpen2
namespace Go.Proofs.Ytiimpmdnkjhcoaa
open Go.ChangeShapes Go.WideShapes Go.ChangeAt Go.RowKit Go.Deep

section

variable {H : Type} {enc : TypeId × Value → H} {w : World}

theorem spans_len {n : Nat} (h : n * Try.prog.bytesOf 36 ≤ reachBytes) : n ≤ 140737488355328 := by
  rw [byS] at h
  unfold reachBytes at h
  omega

theorem read_spans : Try.prog.readableRec 22 = true ∧ 22 < Try.prog.types.size := ⟨by kernel_rfl, of_decide_eq_true (by kernel_rfl)⟩

theorem read_u32 : Try.prog.readableRec 23 = true ∧ 23 < Try.prog.types.size := ⟨by kernel_rfl, of_decide_eq_true (by kernel_rfl)⟩

set_option maxRecDepth 100000 in
theorem arg_u32 {r : Reach} {b0 : Nat} {v : Value} {d : DataW H} {p : List MemPlace} (hv : Value.okWide Try.prog w r b0 23 v)
    (h : DataW.Trod enc Try.prog w 0 (fun _ => true) true 23 v d p) (_ : w.noneFrozen p) (_ : Fits 23 d) : ∃ n : Int, v = .int .u32 n ∧ 0 ≤ n ∧ n < 4294967296 := by
  obtain ⟨n, rfl⟩ := okWide_int un32 hv
  obtain ⟨fuel, h⟩ := h
  obtain ⟨t, e0, _, w0⟩ := DataW.trod_int un32 h
  simp [Value.cells] at e0
  subst e0
  obtain ⟨p0, p1⟩ := wf_int w0
  exact ⟨_, rfl, p0, Int.lt_add_one_of_le p1⟩

end

end Go.Proofs.Ytiimpmdnkjhcoaa

/-
  Arguments opened: operations, lists of them, lists of runs.
  Slices of runs as arguments. No walk in it.
-/
import Derived.Test.YteoodmilcpmmpaaGreatOpenAll
import Derived.Test.YteoodmilcpmmpaaGreatRunB
namespace Go.Proofs.YteoodmilcpmmpaaGreat
open Go.ChangeShapes Go.WideShapes Go.ChangeAt Go.RowKit Go.Deep

section

variable {H : Type} {enc : TypeId × Value → H} {w : World}

def QRun (_ : Run) : Prop := True

def QOp (x : Op) : Prop := x.pl.length ≤ 8796093022208

theorem fieldsRun : fieldsOf 40 = some #[(23, 0), (5, 1), (3, 2)] := by kernel_rfl

theorem fieldsOp : fieldsOf 47 = some #[(5, 0), (25, 1), (26, 3), (3, 4)] := by kernel_rfl

theorem unRuns : Tryz.prog.underlying 26 = some (.slice 40) := by kernel_rfl

theorem unOps : Tryz.prog.underlying 22 = some (.slice 47) := by kernel_rfl

theorem coRun : Tryz.prog.cellsOf 40 = 3 := by kernel_rfl

theorem coOp : Tryz.prog.cellsOf 47 = 5 := by kernel_rfl

theorem coRuns : Tryz.prog.cellsOf 26 = 1 := by kernel_rfl

theorem byR : Tryz.prog.bytesOf 40 = 16 := by kernel_rfl

theorem byO : Tryz.prog.bytesOf 47 = 48 := by kernel_rfl

theorem len_three {β : Type} {l : List β} (h : l.length = 3) : ∃ a b c, l = [a, b, c] := by
  match l, h with
  | [a, b, c], _ => exact ⟨a, b, c, rfl⟩

theorem len_five {β : Type} {l : List β} (h : l.length = 5) : ∃ a b c d e, l = [a, b, c, d, e] := by
  match l, h with
  | [a, b, c, d, e], _ => exact ⟨a, b, c, d, e, rfl⟩

theorem rd_run : ∀ n cs x, Rd enc w n 40 cs x → w.noneFrozen x.2 → Fits 40 x.1 → ∃ v, cRun.rd w (Fresh 0 w) v cs ∧ QRun v := fun n cs x h hz hq => by
  obtain ⟨n', hl, hf⟩ := struct_fields fieldsRun h hz hq
  rw [coRun] at hl
  obtain ⟨a, b, c, rfl⟩ := len_three hl
  obtain ⟨_, h0, _⟩ := hf 0 (23, 0) rfl
  obtain ⟨_, h1, _⟩ := hf 1 (5, 1) rfl
  obtain ⟨_, h2, _⟩ := hf 2 (3, 2) rfl
  simp only [co32, co8, coInt] at h0 h1 h2
  obtain ⟨t, e0, _, w0⟩ := DataW.trod_int un32 h0
  obtain ⟨r, e1, _, w1⟩ := DataW.trod_int un8 h1
  obtain ⟨m, e2, _, w2⟩ := DataW.trod_int Tryz.underlying3 h2
  simp at e0 e1 e2
  subst e0 e1 e2
  obtain ⟨p0, p1⟩ := wf_int w0
  obtain ⟨q0, q1⟩ := wf_int w1
  obtain ⟨r0, r1⟩ := wf_int w2
  exact ⟨⟨t, r, m⟩, ⟨⟨p0, Int.lt_add_one_of_le p1, q0, Int.lt_add_one_of_le q1, r0, r1⟩, rfl⟩, trivial⟩

theorem rd_op : ∀ n cs x, Rd enc w n 47 cs x → w.noneFrozen x.2 → Fits 47 x.1 → ∃ v, cOp.rd w (Fresh 0 w) v cs ∧ QOp v := fun n cs x h hz hq => by
  obtain ⟨n', hl, hf⟩ := struct_fields fieldsOp h hz hq
  rw [coOp] at hl
  obtain ⟨a0, a1, a2, a3, a4, rfl⟩ := len_five hl
  obtain ⟨_, h0, _⟩ := hf 0 (5, 0) rfl
  obtain ⟨_, h1, z1, k1⟩ := hf 1 (25, 1) rfl
  obtain ⟨_, h3, z3, k3⟩ := hf 2 (26, 3) rfl
  obtain ⟨_, h4, _⟩ := hf 3 (3, 4) rfl
  simp only [co8, coId, coRuns, coInt] at h0 h1 h3 h4
  obtain ⟨k, e0, _, w0⟩ := DataW.trod_int un8 h0
  obtain ⟨id, ⟨hid, e1⟩, _⟩ := rd_id _ _ _ h1 z1 k1
  obtain ⟨A, c, xs, e3, l1, l2, hr, hbg, _⟩ := r_of_slice unRuns coRun rd_run h3 z3 k3
  rw [byR] at hbg
  unfold reachBytes at hbg
  obtain ⟨p, e4, _, w4⟩ := DataW.trod_int Tryz.underlying3 h4
  simp at e0 e1 e3 e4
  obtain ⟨e1, e2⟩ := e1
  subst e0 e1 e2 e3 e4
  obtain ⟨q0, q1⟩ := wf_int w0
  obtain ⟨r0, r1⟩ := wf_int w4
  exact ⟨⟨k, id, xs, p⟩, ⟨⟨⟨q0, Int.lt_add_one_of_le q1⟩, hid, r0, r1⟩, A, c, l1, l2, rfl, hr⟩, show xs.length ≤ 8796093022208 by omega⟩

theorem ops_len {n : Nat} (h : n * Tryz.prog.bytesOf 47 ≤ reachBytes) : n ≤ 140737488355328 := by
  rw [byO] at h
  unfold reachBytes at h
  omega

theorem read_ops : Tryz.prog.readableRec 22 = true ∧ 22 < Tryz.prog.types.size := ⟨by kernel_rfl, of_decide_eq_true (by kernel_rfl)⟩

theorem read_op : Tryz.prog.readableRec 47 = true ∧ 47 < Tryz.prog.types.size := ⟨by kernel_rfl, of_decide_eq_true (by kernel_rfl)⟩

theorem unOp : ∃ fs, Tryz.prog.underlying 47 = some (.struct fs) := by
  have h := fieldsOp
  unfold fieldsOf at h
  generalize Tryz.prog.underlying 47 = u at h
  split at h
  · exact ⟨_, rfl⟩
  · cases h

set_option maxRecDepth 100000 in
theorem arg_op {r : Reach} {b0 : Nat} {v : Value} {d : DataW H} {p : List MemPlace} (hv : Value.okWide Tryz.prog w r b0 47 v)
    (h : DataW.Trod enc Tryz.prog w 0 (fun _ => true) true 47 v d p) (hz : w.noneFrozen p) (hq : Fits 47 d) :
    ∃ (x : Op) (A : Option Addr) (c : Nat), v = .agg #[.int .u8 x.kind, .int .u32 x.id.t, .int .u8 x.id.r, .slice A x.pl.length c, .int .i64 x.pt] ∧ x.ok ∧ x.pl.length ≤ c ∧ c ≤ maxLen ∧ R cRun 0 w A x.pl ∧ QOp x := by
  obtain ⟨fs, hs⟩ := unOp
  obtain ⟨cs, rfl, _⟩ := okWide_struct hs hv
  obtain ⟨fuel, h⟩ := h
  obtain ⟨x, ⟨hx, A, c, h1, h2, e, hr⟩, hQ⟩ := rd_op _ _ _ h hz hq
  refine ⟨x, A, c, ?_, hx, h1, h2, hr, hQ⟩
  obtain ⟨l⟩ := cs
  simp only [Value.cells] at e
  rw [e]
  rfl

end
end Go.Proofs.YteoodmilcpmmpaaGreat

namespace Go.Proofs.YteoodmilcpmmpaaGreat
open Go.ChangeShapes Go.WideShapes Go.ChangeAt Go.RowKit

theorem read_runs : Tryz.prog.readableRec 26 = true ∧ 26 < Tryz.prog.types.size := ⟨by kernel_rfl, of_decide_eq_true (by kernel_rfl)⟩
end Go.Proofs.YteoodmilcpmmpaaGreat

/-
  Slices of runs as arguments. No walk in it.
-/
import Derived.Test.YtkolimhkfiebeaaOpenOp
namespace Go.Proofs.Ytkolimhkfiebeaa
open Go.ChangeShapes Go.WideShapes Go.ChangeAt Go.RowKit

theorem read_runs : Try.prog.readableRec 34 = true ∧ 34 < Try.prog.types.size := ⟨by kernel_rfl, of_decide_eq_true (by kernel_rfl)⟩
end Go.Proofs.Ytkolimhkfiebeaa

/-
  The walks of clock.Twin, and of the reference's.
-/
import Derived.Test.YtkolimhkfiebeaaClock
import Derived.Test.YtkolimhkfiebeaaRefSpan
namespace Go.Proofs.Ytkolimhkfiebeaa
open Go.RowKit

def smallC (l : List Times) : Prop := l.length ≤ 1048576 ∧ ∀ x ∈ l, x.s.length ≤ 1048576
theorem Try.infoTimes : (Try.prog.info? 96).map (fun i => (i.zero, i.size, i.bytes)) = some (some (.agg #[.int .u8 0, .slice none 0 0]), 2, 32) := by kernel_rfl

end Go.Proofs.Ytkolimhkfiebeaa

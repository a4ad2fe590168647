/-
  The walks of clock.Twin, and of the reference's.
-/
import Derived.Test.YtedcopjpgijpjaaClock
import Derived.Test.YtedcopjpgijpjaaRefSpan
namespace Go.Proofs.Ytedcopjpgijpjaa
open Go.RowKit

def smallC (l : List Times) : Prop := l.length ≤ 1048576 ∧ ∀ x ∈ l, x.s.length ≤ 1048576
theorem Try.infoTimes : (Try.prog.info? 67).map (fun i => (i.zero, i.size, i.bytes)) = some (some (.agg #[.int .u8 0, .slice none 0 0]), 2, 32) := by kernel_rfl

end Go.Proofs.Ytedcopjpgijpjaa

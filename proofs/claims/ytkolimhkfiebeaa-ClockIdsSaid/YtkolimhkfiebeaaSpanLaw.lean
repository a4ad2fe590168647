/-
  The walks of SpanSets, SpanJoins, SpanAdds; what they say of sets of times.
-/
import Derived.Test.YtkolimhkfiebeaaLawB
import Derived.Test.YtkolimhkfiebeaaGood
namespace Go.Proofs.Ytkolimhkfiebeaa
open Go.RowKit

theorem set_len_le (want : Bool → Bool → Bool) (a b : List Span) : (setL want a b).length ≤ a.length + b.length := by
  unfold setL
  split
  · exact setF_len want a b
  · exact Nat.zero_le _

end Go.Proofs.Ytkolimhkfiebeaa

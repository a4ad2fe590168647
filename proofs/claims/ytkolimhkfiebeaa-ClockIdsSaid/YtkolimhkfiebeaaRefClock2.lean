/-
  The walks of the references May and Ids of layer 8.
-/
import Derived.Test.YtkolimhkfiebeaaRefClock
namespace Go.Proofs.Ytkolimhkfiebeaa
open Go.RowKit

end Go.Proofs.Ytkolimhkfiebeaa

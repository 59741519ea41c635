/- The walk of graph.Near. -/
import Derived.Test.YtlbdbfmgkappaaaCosts
import Derived.Test.YtlbdbfmgkappaaaPick
namespace Go.Proofs.Ytlbdbfmgkappaaa
open Go.RowKit
set_option linter.unusedVariables false

/-- A neighbour, by the cost. -/
def nearB (F : Nat → Int) (k : Nat) : Bool := decide (0 < F k ∧ F k < 16)

end Go.Proofs.Ytlbdbfmgkappaaa

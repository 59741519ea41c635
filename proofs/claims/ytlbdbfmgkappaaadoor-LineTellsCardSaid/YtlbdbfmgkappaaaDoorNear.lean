/- The walk of graph.Near. -/
import Derived.Test.YtlbdbfmgkappaaaDoorCosts
import Derived.Test.YtlbdbfmgkappaaaDoorPick
namespace Go.Proofs.YtlbdbfmgkappaaaDoor
open Go.RowKit
set_option linter.unusedVariables false

/-- A neighbour, by the cost. -/
def nearB (F : Nat → Int) (k : Nat) : Bool := decide (0 < F k ∧ F k < 16)

end Go.Proofs.YtlbdbfmgkappaaaDoor

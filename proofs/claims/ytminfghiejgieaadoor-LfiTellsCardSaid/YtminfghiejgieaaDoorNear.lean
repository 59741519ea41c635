/- The walk of graph.Near. -/
import Derived.Test.YtminfghiejgieaaDoorCosts
import Derived.Test.YtminfghiejgieaaDoorPick
namespace Go.Proofs.YtminfghiejgieaaDoor
open Go.RowKit
set_option linter.unusedVariables false

/-- A neighbour, by the cost. -/
def nearB (F : Nat → Int) (k : Nat) : Bool := decide (0 < F k ∧ F k < 16)

end Go.Proofs.YtminfghiejgieaaDoor

/- The walk of slices.Repeat over one thought, few times. -/
import Derived.Test.YtminfghiejgieaaDoorCopy2
namespace Go.Proofs.YtminfghiejgieaaDoor
open Go.RowKit
set_option linter.unusedVariables false

end Go.Proofs.YtminfghiejgieaaDoor

/- The walk of waywardensame.Rows: are two lists of lists the same? -/
import Derived.Test.YtminfghiejgieaaDoorInts
namespace Go.Proofs.YtminfghiejgieaaDoor
open Go.RowKit
set_option linter.unusedVariables false

end Go.Proofs.YtminfghiejgieaaDoor

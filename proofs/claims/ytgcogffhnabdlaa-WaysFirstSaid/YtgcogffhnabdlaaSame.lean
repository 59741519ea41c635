/- The walk of waywardensame.Rows: are two lists of lists the same? -/
import Derived.Test.YtgcogffhnabdlaaInts
namespace Go.Proofs.Ytgcogffhnabdlaa
open Go.RowKit
set_option linter.unusedVariables false

end Go.Proofs.Ytgcogffhnabdlaa

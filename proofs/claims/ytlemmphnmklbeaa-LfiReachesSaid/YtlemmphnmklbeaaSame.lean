/- The walk of waywardensame.Rows: are two lists of lists the same? -/
import Derived.Test.YtlemmphnmklbeaaInts
namespace Go.Proofs.Ytlemmphnmklbeaa
open Go.RowKit
set_option linter.unusedVariables false

end Go.Proofs.Ytlemmphnmklbeaa

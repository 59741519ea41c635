/- The walk of waywardensame.Rows: are two lists of lists the same? -/
import Derived.Test.YtekhafihmfkofaaInts
namespace Go.Proofs.Ytekhafihmfkofaa
open Go.RowKit
set_option linter.unusedVariables false

end Go.Proofs.Ytekhafihmfkofaa

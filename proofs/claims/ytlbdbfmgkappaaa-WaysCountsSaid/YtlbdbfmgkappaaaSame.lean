/- The walk of waywardensame.Rows: are two lists of lists the same? -/
import Derived.Test.YtlbdbfmgkappaaaInts
namespace Go.Proofs.Ytlbdbfmgkappaaa
open Go.RowKit
set_option linter.unusedVariables false

end Go.Proofs.Ytlbdbfmgkappaaa

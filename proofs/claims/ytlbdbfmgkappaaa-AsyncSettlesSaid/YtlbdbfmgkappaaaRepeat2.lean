/- The walk of slices.Repeat over one thought, few times. -/
import Derived.Test.YtlbdbfmgkappaaaCopy2
namespace Go.Proofs.Ytlbdbfmgkappaaa
open Go.RowKit
set_option linter.unusedVariables false

end Go.Proofs.Ytlbdbfmgkappaaa

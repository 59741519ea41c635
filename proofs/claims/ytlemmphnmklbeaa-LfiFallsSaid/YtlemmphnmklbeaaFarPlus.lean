/- The walks of the reference's Far and Plus. -/
import Derived.Test.YtlemmphnmklbeaaBase
namespace Go.Proofs.Ytlemmphnmklbeaa
open Go.RowKit
set_option linter.unusedVariables false

attribute [local go_sem high] run_min_pair

end Go.Proofs.Ytlemmphnmklbeaa

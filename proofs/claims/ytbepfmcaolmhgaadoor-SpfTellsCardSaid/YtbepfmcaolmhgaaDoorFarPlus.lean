/- The walks of the reference's Far and Plus. -/
import Derived.Test.YtbepfmcaolmhgaaDoorBase
namespace Go.Proofs.YtbepfmcaolmhgaaDoor
open Go.RowKit
set_option linter.unusedVariables false

attribute [local go_sem high] run_min_pair

theorem plus_walk (a b : Int) (w : World) (ha : 0 ≤ a) (ha' : a ≤ 16) (hb : 0 ≤ b) (hb' : b ≤ 16) : Calls Tryd.prog 51 #[.int .i64 a, .int .i64 b] w fun e w' => e = .returned (.int .i64 (min (a + b) 16)) ∧ w' = w := by
  go_enter Tryd.func51, Tryd.ntmps51
  go_wp2_with fail
  go_ret
  exact ⟨rfl, rfl⟩

end Go.Proofs.YtbepfmcaolmhgaaDoor

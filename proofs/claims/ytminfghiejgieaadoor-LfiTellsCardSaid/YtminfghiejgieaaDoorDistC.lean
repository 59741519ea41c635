/- The walks of dist.Check. -/
import Derived.Test.YtminfghiejgieaaDoorBase
namespace Go.Proofs.YtminfghiejgieaaDoor
open Go.RowKit

attribute [local go_sem high] run_min_pair

def OutOf (a b : Int) : Prop := (a < 0 ∨ 16 < a) ∨ (0 ≤ a ∧ a ≤ 16 ∧ (b < 0 ∨ 16 < b))
theorem inOrOut (a b : Int) : ((0 ≤ a ∧ a ≤ 16) ∧ 0 ≤ b ∧ b ≤ 16) ∨ OutOf a b := by unfold OutOf; omega

end Go.Proofs.YtminfghiejgieaaDoor

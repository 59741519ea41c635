/- The walks of bell.Start, bell.Round. -/
import Derived.Test.YtminfghiejgieaaDoorBellMath
import Derived.Test.YtminfghiejgieaaDoorComm
import Derived.Test.YtminfghiejgieaaDoorRepeat
import Derived.Test.YtminfghiejgieaaDoorDistC
import Derived.Test.YtminfghiejgieaaDoorTail
namespace Go.Proofs.YtminfghiejgieaaDoor
open Go.RowKit
set_option linter.unusedVariables false

theorem upd_val (f : Nat → Int) (i j : Nat) (x : Int) : upd (fun k => Value.int .i64 (f k)) i (.int .i64 x) j = .int .i64 (upd f i x j) := by
  unfold upd
  by_cases h : j = i
  · simp only [if_pos h]
  · simp only [if_neg h]

attribute [local go_sem high] run_min_pair

end Go.Proofs.YtminfghiejgieaaDoor

/- The walks of dist.Check. -/
import Derived.Test.YtlemmphnmklbeaaBase
namespace Go.Proofs.Ytlemmphnmklbeaa
open Go.RowKit

attribute [local go_sem high] run_min_pair

def OutOf (a b : Int) : Prop := (a < 0 ∨ 16 < a) ∨ (0 ≤ a ∧ a ≤ 16 ∧ (b < 0 ∨ 16 < b))
theorem inOrOut (a b : Int) : ((0 ≤ a ∧ a ≤ 16) ∧ 0 ≤ b ∧ b ≤ 16) ∨ OutOf a b := by unfold OutOf; omega

set_option maxHeartbeats 400000 in
theorem distCheck_ok (d : Int) (w : World) (h0 : 0 ≤ d) (h1 : d ≤ 16) :
    Calls Try.prog 31 #[.int .i64 d] w fun e w' => e = .returned .nilIface ∧ w = w' := by
  go_enter Try.func31, Try.ntmps31
  go_wp2
  go_ret
  exact ⟨rfl, rfl⟩

set_option maxHeartbeats 400000 in
theorem distCheck_bad (d : Int) (w : World) (h : d < 0 ∨ 16 < d) :
    Calls Try.prog 31 #[.int .i64 d] w fun e w' => e = .returned (errNo 1) ∧ w = w' := by
  rcases h with h | h
  · go_enter Try.func31, Try.ntmps31
    go_wp2
    go_ret
    exact ⟨rfl, rfl⟩
  · have h0 : ¬ d < 0 := by omega
    go_enter Try.func31, Try.ntmps31
    go_wp2
    go_ret
    exact ⟨rfl, rfl⟩

end Go.Proofs.Ytlemmphnmklbeaa

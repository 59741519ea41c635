/- The walks of the reference's Far and Plus. -/
import Derived.Test.YtdilajieimbdnaaDoorBase
namespace Go.Proofs.YtdilajieimbdnaaDoor
open Go.RowKit
set_option linter.unusedVariables false

theorem far_no (d : Int) (w : World) (h0 : 0 ≤ d) (h1 : d ≤ 16) : Calls Tryd.prog 28 #[.int .i64 d] w fun e w' => e = .returned (.bool false) ∧ w' = w := by
  have hd : decide (d < 0) = false := decide_eq_false (by omega)
  have hd' : decide (16 < d) = false := decide_eq_false (by omega)
  go_enter Tryd.func28, Tryd.ntmps28
  go_wp2_with fail
  go_ret
  exact ⟨rfl, rfl⟩

theorem far_yes (d : Int) (w : World) (h : d < 0 ∨ 16 < d) : Calls Tryd.prog 28 #[.int .i64 d] w fun e w' => e = .returned (.bool true) ∧ w' = w := by
  rcases (show d < 0 ∨ (0 ≤ d ∧ 16 < d) by omega) with h | ⟨h0, h⟩
  · have hd : decide (d < 0) = true := decide_eq_true h
    go_enter Tryd.func28, Tryd.ntmps28
    go_wp2_with fail
    go_ret
    exact ⟨rfl, rfl⟩
  · have hd : decide (d < 0) = false := decide_eq_false (by omega)
    have hd' : decide (16 < d) = true := decide_eq_true h
    go_enter Tryd.func28, Tryd.ntmps28
    go_wp2_with fail
    go_ret
    exact ⟨rfl, rfl⟩

attribute [local go_sem high] run_min_pair

theorem plus_walk (a b : Int) (w : World) (ha : 0 ≤ a) (ha' : a ≤ 16) (hb : 0 ≤ b) (hb' : b ≤ 16) : Calls Tryd.prog 62 #[.int .i64 a, .int .i64 b] w fun e w' => e = .returned (.int .i64 (min (a + b) 16)) ∧ w' = w := by
  go_enter Tryd.func62, Tryd.ntmps62
  go_wp2_with fail
  go_ret
  exact ⟨rfl, rfl⟩

end Go.Proofs.YtdilajieimbdnaaDoor

/- The walks of the reference's damp. -/
import Derived.Test.YtdilajieimbdnaaDoorDampLaw
import Derived.Test.YtdilajieimbdnaaDoorTouch
import Derived.Laws.Rows
namespace Go.Proofs.YtdilajieimbdnaaDoor
open Go.RowKit
set_option linter.unusedVariables false

theorem infoRefDamp : (Tryd.prog.info? 33).map (·.size) = some 4 := by kernel_rfl

set_option maxRecDepth 100000 in
set_option maxHeartbeats 1000000 in
theorem flapped_walk (half now pen : Int) (held : Bool) (w : World) (h6 : 0 ≤ pen) (h7 : pen ≤ 12000) (b : Bool) (hb : b = (held || decide (2000 < flapped pen))) :
    Calls Tryd.prog 15 #[.agg (dampCells half now pen held)] w fun e w' => e = .returned (.agg (dampCells half now (flapped pen) b)) ∧ Below w.heap.size w w' := by
  have HB0 := Lib.hid hb
  clear hb
  rcases (show pen + 1000 ≤ 2000 ∨ (2000 < pen + 1000 ∧ pen + 1000 ≤ 12000) ∨ (12000 < pen + 1000) by omega) with k | ⟨k1, k2⟩ | k
  all_goals
   go_enter Tryd.func15, Tryd.ntmps15
   go_wp2_with fail
   all_goals
    (try simp only [Exit.inBlock, Exit.then])
    refine bodyPost_ret (results_cell_row rfl _ _ (w.heap.size + 1) _ _ _ _ rfl (heap_alloc2_new _ _ _) Tryd.underlying33 rfl infoRefDamp) rfl ?_
    refine ⟨?_, ((Below.refl _ _).alloc (Nat.le_refl _) _).alloc (by simp) _⟩
    first
    | (exfalso; omega)
    | (have e1 : flapped pen = pen + 1000 := Int.min_eq_left (by omega)
       have e2 := HB0.out
       rw [e1] at e2
       first
       | rw [decide_eq_true (by omega), Bool.or_true] at e2
       | rw [decide_eq_false (by omega), Bool.or_false] at e2
       rw [e1, e2]
       try rfl)
    | (have e1 : flapped pen = 12000 := Int.min_eq_right (by omega)
       have e2 := HB0.out
       rw [e1, decide_eq_true (by omega), Bool.or_true] at e2
       rw [e1, e2]
       try rfl)

end Go.Proofs.YtdilajieimbdnaaDoor

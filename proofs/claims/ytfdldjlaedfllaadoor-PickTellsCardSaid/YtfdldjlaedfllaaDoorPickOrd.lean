/- The order of hops: plain laws. -/
import Derived.Shelf.SlSortCmp.Whole1
import Derived.Test.YtfdldjlaedfllaaDoorPickCmp
namespace Go.Proofs.YtfdldjlaedfllaaDoor
open Go.Shelf Go.RowKit Go.Lib Go.Sort
set_option linter.unusedVariables false

/-- Which hop stands ahead. -/
theorem ord_lt (fl x y : Int) : ltOf (ordC fl) x y = decide (mixI fl y < mixI fl x ∨ (mixI fl x = mixI fl y ∧ x < y)) := by
  unfold ltOf ordC cmpI
  generalize mixI fl x = a
  generalize mixI fl y = b
  rcases Int.lt_trichotomy b a with h | h | h
  · simp [h]
  · subst h
    rcases Int.lt_trichotomy x y with h2 | h2 | h2
    · simp [h2]
    · subst h2; simp
    · simp [show ¬ x < y by omega, h2]
  · simp [show ¬ b < a by omega, h, show ¬ a = b by omega]
theorem ord_swo (fl : Int) : SWO (ltOf (ordC fl)) where
  irrefl x := by rw [ord_lt]; simp
  trans x y z h1 h2 := by rw [ord_lt] at *; simp only [decide_eq_true_eq] at *; omega
  ntrans x y z h1 h2 := by rw [ord_lt] at *; simp only [decide_eq_false_iff_not] at *; omega

end Go.Proofs.YtfdldjlaedfllaaDoor

/- The walks of bell.Round where it fails, slices.Equal, bell.Run. -/
import Derived.Test.YtminfghiejgieaaDoorBell
import Derived.Test.YtminfghiejgieaaDoorOwnV
import Derived.Test.YtminfghiejgieaaDoorCost
namespace Go.Proofs.YtminfghiejgieaaDoor
open Go.RowKit
set_option linter.unusedVariables false

/-- What a round asks. -/
def GoodR (x : Int) (m : Nat) (a b c : Nat → Int) (y : Int) (k : Nat) (d : Nat → Int) : Prop := GoodG x m a b c ∧ 0 ≤ y ∧ y < x ∧ (k : Int) = x ∧ RangedV k d

/-- What is wrong with a round's arguments. -/
def FaultR (x : Int) (m : Nat) (a b c : Nat → Int) (y : Int) (k : Nat) (d : Nat → Int) (v : Int) : Prop :=
  FaultG x m a b c v ∨ (GoodG x m a b c ∧ (y < 0 ∨ x ≤ y) ∧ v = 1) ∨ (GoodG x m a b c ∧ 0 ≤ y ∧ y < x ∧ (k : Int) ≠ x ∧ v = 3) ∨ (GoodG x m a b c ∧ 0 ≤ y ∧ y < x ∧ (k : Int) = x ∧ ¬ RangedV k d ∧ v = 1)

theorem round_cases (x : Int) (m : Nat) (a b c : Nat → Int) (y : Int) (k : Nat) (d : Nat → Int) : GoodR x m a b c y k d ∨ ∃ v, (v = 1 ∨ v = 3 ∨ v = 5) ∧ FaultR x m a b c y k d v := by
  rcases graph_cases x m a b c with hg | ⟨v, hv, hf⟩
  · by_cases h1 : 0 ≤ y ∧ y < x
    · by_cases h2 : (k : Int) = x
      · by_cases h3 : RangedV k d
        · exact .inl ⟨hg, h1.1, h1.2, h2, h3⟩
        · exact .inr ⟨1, .inl rfl, .inr (.inr (.inr ⟨hg, h1.1, h1.2, h2, h3, rfl⟩))⟩
      · exact .inr ⟨3, .inr (.inl rfl), .inr (.inr (.inl ⟨hg, h1.1, h1.2, h2, rfl⟩))⟩
    · exact .inr ⟨1, .inl rfl, .inr (.inl ⟨hg, by omega, rfl⟩)⟩
  · exact .inr ⟨v, hv, .inl hf⟩

/-- The first that is no distance. -/
theorem ranged_or (n : Nat) (d : Nat → Int) : RangedV n d ∨ ∃ i, i < n ∧ RangedV i d ∧ (d i < 0 ∨ 16 < d i) := by
  induction n with
  | zero => exact .inl fun i hi => absurd hi (by omega)
  | succ n ih =>
    rcases ih with h | ⟨i, hi, h⟩
    · by_cases h2 : 0 ≤ d n ∧ d n ≤ 16
      · refine .inl fun i hi => ?_
        rcases Nat.lt_or_ge i n with hlt | hge
        · exact h i hlt
        · obtain rfl : i = n := by omega
          exact h2
      · exact .inr ⟨n, by omega, h, by omega⟩
    · exact .inr ⟨i, by omega, h⟩

theorem bellRun_bad_aux (x y : Int) (m : Nat) (a b c : Nat → Int) : (GoodG x m a b c ∧ 0 ≤ y ∧ y < x) ∨ ∃ v, (v = 1 ∨ v = 3 ∨ v = 5) ∧ (FaultG x m a b c v ∨ (GoodG x m a b c ∧ (y < 0 ∨ x ≤ y) ∧ v = 1)) := by
  rcases graph_cases x m a b c with hg | ⟨v, hv, hf⟩
  · by_cases h1 : 0 ≤ y ∧ y < x
    · exact .inl ⟨hg, h1⟩
    · exact .inr ⟨1, .inl rfl, .inr ⟨hg, by omega, rfl⟩⟩
  · exact .inr ⟨v, hv, .inl hf⟩

/-- How many rounds it takes. -/
def Takes (n t : Nat) (a b c : Nat → Int) (m k : Nat) : Prop := k < n ∧ (∀ i, i < n → rounds t a b c m (startF t) k i = endF t a b c m i) ∧ ∀ j, j < k → ∃ i, i < n ∧ rounds t a b c m (startF t) (j + 1) i ≠ rounds t a b c m (startF t) j i

end Go.Proofs.YtminfghiejgieaaDoor

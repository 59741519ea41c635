/- Plain laws of a penalty halved step by step. -/
import Derived.Test.YtdilajieimbdnaaDoorDampLaw
namespace Go.Proofs.YtdilajieimbdnaaDoor
set_option linter.unusedVariables false

theorem half_pow (pen : Int) (k : Nat) : pen / 2 ^ k / 2 = pen / 2 ^ (k + 1) := by
  rw [Int.ediv_ediv_of_nonneg (by exact_mod_cast Nat.zero_le _), Int.pow_succ]

theorem pow_zero_on {pen : Int} (h0 : 0 ≤ pen) {k : Nat} (h : pen / 2 ^ k = 0) : ∀ c, pen / 2 ^ (k + c) = 0
  | 0 => h
  | c + 1 => by
    have ih := pow_zero_on h0 h c
    rw [← Nat.add_assoc, ← half_pow, ih]
    rfl

theorem pen_small {pen : Int} (h0 : 0 ≤ pen) (h1 : pen ≤ 12000) {k : Nat} (hk : 14 ≤ k) : pen / 2 ^ k = 0 := by
  have h : pen / 2 ^ 14 = 0 := Int.ediv_eq_zero_of_lt h0 (by
    have : (2 : Int) ^ 14 = 16384 := by decide
    omega)
  have := pow_zero_on h0 h (k - 14)
  rw [show 14 + (k - 14) = k by omega] at this
  exact this

theorem pass_end {half now pen t : Int} (h0 : 0 ≤ pen) (h1 : pen ≤ 12000) {k : Nat} (hk : (k : Int) ≤ t / half - now / half) (h : (k : Int) = t / half - now / half ∨ pen / 2 ^ k = 0) : pen / 2 ^ k = penAt half now pen t := by
  unfold penAt
  generalize t / half - now / half = q at hk h
  rcases h with h | h
  · subst h
    rcases Nat.lt_or_ge k 62 with hlt | hge
    · rw [show (min (k : Int) 62).toNat = k by omega]
    · rw [show (min (k : Int) 62).toNat = 62 by omega, pen_small h0 h1 (by omega), pen_small h0 h1 (by omega)]
  · rw [h]
    rcases Nat.lt_or_ge k 62 with hlt | hge
    · have := pow_zero_on h0 h ((min q 62).toNat - k)
      rw [show k + ((min q 62).toNat - k) = (min q 62).toNat by omega] at this
      exact this.symm
    · rw [show (min q 62).toNat = 62 by omega, pen_small h0 h1 (by omega)]

end Go.Proofs.YtdilajieimbdnaaDoor

/- There are few shortest ways: each step leads to a node of a lower rank. -/
import Derived.Test.YtminfghiejgieaaDoorWaysLaw
namespace Go.Proofs.YtminfghiejgieaaDoor
open Go.RowKit
set_option linter.unusedVariables false

/-- Of those below n that are so, how many. -/
def cntW (p : Nat → Bool) : Nat → Nat
  | 0 => 0
  | n + 1 => cntW p n + if p n = true then 1 else 0

section
variable {p q : Nat → Bool}
theorem cntW_le : ∀ n, cntW p n ≤ n
  | 0 => Nat.le_refl _
  | n + 1 => by
    have := cntW_le n
    unfold cntW
    split <;> omega
theorem cntW_mono (h : ∀ k, p k = true → q k = true) : ∀ n, cntW p n ≤ cntW q n
  | 0 => Nat.le_refl _
  | n + 1 => by
    have ih := cntW_mono h n
    unfold cntW
    by_cases hp : p n = true
    · rw [if_pos hp, if_pos (h n hp)]; omega
    · rw [if_neg hp]; split <;> omega
theorem cntW_lt (h : ∀ k, p k = true → q k = true) {j : Nat} (hj : q j = true) (hn : ¬ p j = true) : ∀ n, j < n → cntW p n < cntW q n
  | 0, h0 => absurd h0 (by omega)
  | n + 1, h0 => by
    unfold cntW
    by_cases e : j = n
    · subst e
      have := cntW_mono h j
      rw [if_neg hn, if_pos hj]; omega
    · have ih := cntW_lt h hj hn n (by omega)
      by_cases hp : p n = true
      · rw [if_pos hp, if_pos (h n hp)]; omega
      · rw [if_neg hp]; split <;> omega
end

/-- How many are nearer. -/
def rankN (n : Nat) (D : Nat → Int) (a : Nat) : Nat := cntW (fun k => decide (D k < D a)) n
theorem rank_lt {n : Nat} {D : Nat → Int} {a k : Nat} (hk : k < n) (h : D k < D a) : rankN n D k < rankN n D a := by
  show cntW (fun j => decide (D j < D k)) n < cntW (fun j => decide (D j < D a)) n
  refine cntW_lt (fun j hj => ?_) (j := k) (decide_eq_true h) (by simp) n hk
  have := of_decide_eq_true hj
  exact decide_eq_true (by omega)

section
variable {n t : Nat} {K : Nat → Nat → Int} {D : Nat → Int}
theorem ways_few (hK : CostM n K) (hD : FarD n t K D) (ht : t < n) (h8 : n ≤ 8) : ∀ (f a : Nat), a < n → rankN n D a < f → waysF n t K D a ≤ 8 ^ f
  | 0, _, _, h => absurd h (by omega)
  | f + 1, a, ha, h => by
    have hp : (1 : Int) ≤ 8 ^ f := by
      have h1 : (1 : Nat) ≤ 8 ^ f := Nat.one_le_pow _ _ (by omega)
      exact_mod_cast h1
    have e8 : (8 : Int) ^ (f + 1) = 8 * 8 ^ f := by rw [Int.pow_succ]; omega
    rw [e8]
    by_cases e : a = t
    · subst e
      rw [ways_self ha hD]
      omega
    · rw [ways_rec hK hD ha e]
      have h1 := sumB_bound (p := upB t K D a) (W := waysF n t K D) (B := 8 ^ f) (by omega) n fun k hk hu => by
        have hu' : a ≠ t ∧ k ≠ a ∧ D a < 16 ∧ D k + K k a = D a := of_decide_eq_true hu
        have hl := hK.low k a hk ha hu'.2.1
        have hr := rank_lt hk (show D k < D a by omega)
        exact ⟨(ways_bound h8 k).1, ways_few hK hD ht h8 f k hk (by omega)⟩
      have h2 : (n : Int) * 8 ^ f ≤ 8 * 8 ^ f := Int.mul_le_mul_of_nonneg_right (by omega) (by omega)
      omega
/-- No more than so many. -/
theorem ways_most (hK : CostM n K) (hD : FarD n t K D) (ht : t < n) (h8 : n ≤ 8) {a : Nat} (ha : a < n) : waysF n t K D a ≤ 134217728 := by
  have h := ways_few hK hD ht h8 9 a ha (by have := cntW_le (p := fun k => decide (D k < D a)) n; show cntW _ n < 9; omega)
  have e : (8 : Int) ^ 9 = 134217728 := by decide
  omega
end

end Go.Proofs.YtminfghiejgieaaDoor

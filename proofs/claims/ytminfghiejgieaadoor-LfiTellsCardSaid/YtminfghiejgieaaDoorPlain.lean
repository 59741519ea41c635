/- Plain facts on numbers. -/
import Derived.Test.YtminfghiejgieaaDoorBase
namespace Go.Proofs.YtminfghiejgieaaDoor
set_option linter.unusedVariables false

/-- m things that lie apart among N places are no more than N. -/
theorem pigeon : ∀ (N m : Nat) (T : Nat → Nat), (∀ p, p < m → T p < N) → (∀ p q, p < m → q < m → T p = T q → p = q) → m ≤ N := by
  intro N
  induction N with
  | zero =>
    intro m T h _
    rcases Nat.eq_zero_or_pos m with e | e
    · omega
    · have := h 0 e; omega
  | succ N ih =>
    intro m T h inj
    by_cases hx : ∃ p, p < m ∧ T p = N
    · obtain ⟨p, hp, e⟩ := hx
      have key := ih (m - 1) (fun q => if q = p then T (m - 1) else T q) (fun q hq => ?_) (fun q r hq hr e' => ?_)
      · omega
      · by_cases hqp : q = p
        · simp only [if_pos hqp]
          have h1 := h (m - 1) (by omega)
          have h2 : T (m - 1) ≠ N := fun e2 => by have := inj (m - 1) p (by omega) hp (by rw [e2, e]); omega
          omega
        · simp only [if_neg hqp]
          have h1 := h q (by omega)
          have h2 : T q ≠ N := fun e2 => hqp (inj q p (by omega) hp (by rw [e2, e]))
          omega
      · by_cases hqp : q = p <;> by_cases hrp : r = p
        · omega
        · simp only [if_pos hqp, if_neg hrp] at e'
          have := inj _ _ (by omega) (by omega) e'; omega
        · simp only [if_neg hqp, if_pos hrp] at e'
          have := inj _ _ (by omega) (by omega) e'; omega
        · simp only [if_neg hqp, if_neg hrp] at e'
          exact inj _ _ (by omega) (by omega) e'
    · exact Nat.le_succ_of_le (ih m T (fun p hp => by
        have h1 := h p hp
        have h2 : T p ≠ N := fun e => hx ⟨p, hp, e⟩
        omega) inj)

end Go.Proofs.YtminfghiejgieaaDoor

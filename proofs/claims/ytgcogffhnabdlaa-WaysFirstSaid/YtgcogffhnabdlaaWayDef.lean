/- What a way is, and what it comes to. -/
import Derived.Test.YtgcogffhnabdlaaCost
namespace Go.Proofs.Ytgcogffhnabdlaa
open Go.RowKit
set_option linter.unusedVariables false

/-- A way: nodes, each a neighbour of the one ahead. -/
def WayOk (x : Int) (m : Nat) (a b c : Nat → Int) (k : Nat) (f : Nat → Int) : Prop :=
  1 ≤ k ∧ (∀ i, i < k → 0 ≤ f i ∧ f i < x) ∧ ∀ i, i + 1 < k → costV m a b c (f i) (f (i + 1)) ≠ 0 ∧ costV m a b c (f i) (f (i + 1)) ≠ 16

/-- What a way comes to. -/
def wayLen (m : Nat) (a b c : Nat → Int) (f : Nat → Int) : Nat → Int
  | 0 => 0
  | i + 1 => wayLen m a b c f i + (if i = 0 then 0 else costV m a b c (f (i - 1)) (f i))

theorem wayLen_ranged {x : Int} {m : Nat} {a b c : Nat → Int} {f : Nat → Int} (hg : GoodG x m a b c) {k : Nat} (hf : ∀ i, i < k → 0 ≤ f i ∧ f i < x) : ∀ i, i ≤ k → 0 ≤ wayLen m a b c f i ∧ wayLen m a b c f i ≤ 16 * i
  | 0, _ => by unfold wayLen; omega
  | i + 1, h => by
    have ih := wayLen_ranged hg hf i (by omega)
    unfold wayLen
    by_cases h0 : i = 0
    · rw [if_pos h0]; omega
    · rw [if_neg h0]
      have h1 := hf (i - 1) (by omega)
      have h2 := hf i (by omega)
      obtain ⟨p, hp⟩ : ∃ p : Nat, f (i - 1) = p := ⟨(f (i - 1)).toNat, by omega⟩
      obtain ⟨q, hq⟩ : ∃ q : Nat, f i = q := ⟨(f i).toNat, by omega⟩
      have h3 := costV_ranged hg.2.2 p q
      rw [hp, hq]
      omega

end Go.Proofs.Ytgcogffhnabdlaa

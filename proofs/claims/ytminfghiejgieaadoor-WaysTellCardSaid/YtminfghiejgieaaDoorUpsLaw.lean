/- Who leads on: plain laws. -/
import Derived.Test.YtminfghiejgieaaDoorUps
namespace Go.Proofs.YtminfghiejgieaaDoor
open Go.RowKit
set_option linter.unusedVariables false

section
variable {n t : Nat} {K : Nat → Nat → Int} {D : Nat → Int}
theorem ups_at (hK : CostM n K) (hD : FarD n t K D) {i k : Nat} (hi : i < n) (hk : k < (upsL n t K D i).length) :
    ∃ p : Nat, p < n ∧ p ≠ i ∧ i ≠ t ∧ D i < 16 ∧ atL (upsL n t K D i) k = p ∧ D p + K p i = D i := by
  have hm : atL (upsL n t K D i) k ∈ upsL n t K D i := atL_mem.1 ⟨k, hk, rfl⟩
  obtain ⟨p, hp⟩ : ∃ p : Nat, atL (upsL n t K D i) k = p := by
    have h := hm
    unfold upsL pickL at h
    rw [List.mem_map] at h
    obtain ⟨p, -, e⟩ := h
    exact ⟨p, e.symm⟩
  rw [hp] at hm
  obtain ⟨h1, h2⟩ := pickL_mem.1 hm
  have h3 : i ≠ t ∧ p ≠ i ∧ D i < 16 ∧ D p + K p i = D i := of_decide_eq_true h2
  exact ⟨p, h1, h3.2.1, h3.1, h3.2.2.1, hp, h3.2.2.2⟩
theorem ups_some (hK : CostM n K) (hD : FarD n t K D) {i : Nat} (hi : i < n) (h1 : i ≠ t) (h2 : D i < 16) : 0 < (upsL n t K D i).length := by
  obtain ⟨k, hk, hne, h16, he⟩ := hD.att i hi h1 h2
  have hm : (k : Int) ∈ upsL n t K D i := pickL_mem.2 ⟨hk, by
    unfold upB
    rw [hK.back i k hi hk] at he
    exact decide_eq_true ⟨h1, hne, h2, by omega⟩⟩
  exact List.length_pos_of_mem hm
theorem ups_none (hK : CostM n K) (hD : FarD n t K D) {i : Nat} (hi : i < n) (h : i = t ∨ ¬ D i < 16) : (upsL n t K D i).length = 0 := by
  rcases Nat.eq_zero_or_pos (upsL n t K D i).length with h0 | h0
  · exact h0
  · obtain ⟨p, -, -, h3, h4, -⟩ := ups_at hK hD hi h0
    exact absurd h (by rintro (h | h); exact h3 h; exact h h4)
end

end Go.Proofs.YtminfghiejgieaaDoor

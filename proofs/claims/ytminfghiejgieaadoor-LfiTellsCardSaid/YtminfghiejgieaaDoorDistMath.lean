/- How far nodes are: laws of the least costs, in plain numbers. -/
import Derived.Test.YtminfghiejgieaaDoorBellMath
import Derived.Test.YtminfghiejgieaaDoorCosts
namespace Go.Proofs.YtminfghiejgieaaDoor
set_option linter.unusedVariables false

/-- A table of costs of links, there as back. -/
structure CostM (n : Nat) (K : Nat → Nat → Int) : Prop where
  same : ∀ i, i < n → K i i = 0
  low : ∀ i k, i < n → k < n → i ≠ k → 1 ≤ K i k
  high : ∀ i k, i < n → k < n → K i k ≤ 16
  back : ∀ i k, i < n → k < n → K i k = K k i

/-- D tells how far each node is from t. -/
structure FarD (n t : Nat) (K : Nat → Nat → Int) (D : Nat → Int) : Prop where
  zero : D t = 0
  low : ∀ i, i < n → 0 ≤ D i
  high : ∀ i, i < n → D i ≤ 16
  tri : ∀ i k, i < n → k < n → D i ≤ K i k + D k
  att : ∀ i, i < n → i ≠ t → D i < 16 → ∃ k, k < n ∧ k ≠ i ∧ K i k < 16 ∧ D i = K i k + D k

section
variable {n t : Nat} {K : Nat → Nat → Int} {D D' f : Nat → Int}
theorem CostM.nonneg (hK : CostM n K) {i k : Nat} (hi : i < n) (hk : k < n) : 0 ≤ K i k := by
  by_cases e : i = k
  · subst e; rw [hK.same i hi]; exact Int.le_refl _
  · have := hK.low i k hi hk e
    omega

/-- What falls off no faster than links cost is no more than the distance. -/
theorem FarD.most (hK : CostM n K) (hD : FarD n t K D) (h0 : f t ≤ 0) (h1 : ∀ i, i < n → f i ≤ 16) (h2 : ∀ i k, i < n → k < n → k ≠ i → K i k < 16 → f i ≤ K i k + f k) : ∀ i, i < n → f i ≤ D i := by
  have h : ∀ (d : Nat) (i : Nat), i < n → D i ≤ d → f i ≤ D i := by
    intro d
    induction d with
    | zero =>
      intro i hi hd
      by_cases e : i = t
      · subst e; rw [hD.zero]; exact h0
      · by_cases h16 : D i < 16
        · obtain ⟨k, hk, hne, -, he⟩ := hD.att i hi e h16
          have := hK.low i k hi hk (fun e => hne e.symm)
          have := hD.low k hk
          omega
        · have := h1 i hi
          omega
    | succ d ih =>
      intro i hi hd
      by_cases e : i = t
      · subst e; rw [hD.zero]; exact h0
      · by_cases h16 : D i < 16
        · obtain ⟨k, hk, hne, hlt, he⟩ := hD.att i hi e h16
          have h3 := hK.low i k hi hk (fun e => hne e.symm)
          have h4 := ih k hk (by omega)
          have h5 := h2 i k hi hk hne hlt
          omega
        · have := h1 i hi
          omega
  intro i hi
  have := hD.low i hi
  exact h (D i).toNat i hi (by omega)

theorem FarD.only (hK : CostM n K) (hD : FarD n t K D) (hD' : FarD n t K D') : ∀ i, i < n → D i = D' i := fun i hi =>
  Int.le_antisymm (hD'.most hK (Int.le_of_eq hD.zero) hD.high (fun i k hi hk _ _ => hD.tri i k hi hk) i hi) (hD.most hK (Int.le_of_eq hD'.zero) hD'.high (fun i k hi hk _ _ => hD'.tri i k hi hk) i hi)

/-- Any two links' ends are no farther apart than the link costs: as seen from any node. -/
theorem FarD.detour (hK : CostM n K) {s : Nat} (hs : s < n) (hD : FarD n t K D) (hS : FarD n s K D') : ∀ i, i < n → D i ≤ D s + D' i := by
  intro i hi
  have h := hS.most hK (f := fun i => D i - D s) (by show D s - D s ≤ 0; omega) (fun i hi => by
    have := hD.high i hi
    have := hD.low s hs
    show D i - D s ≤ 16
    omega) (fun i k hi hk _ _ => by
    have := hD.tri i k hi hk
    show D i - D s ≤ K i k + (D k - D s)
    omega) i hi
  have h' : D i - D s ≤ D' i := h
  omega

theorem FarD.there (hK : CostM n K) {s : Nat} (ht : t < n) (hs : s < n) (hD : FarD n t K D) (hS : FarD n s K D') : D s ≤ D' t := by
  have h := hS.most hK (f := fun i => D s - D i) (by show D s - D s ≤ 0; omega) (fun i hi => by
    have := hD.high s hs
    have := hD.low i hi
    show D s - D i ≤ 16
    omega) (fun i k hi hk _ _ => by
    have := hD.tri k i hk hi
    have := hK.back i k hi hk
    show D s - D i ≤ K i k + (D s - D k)
    omega) t ht
  have h' : D s - D t ≤ D' t := h
  have := hD.zero
  omega

/-- As far there as back. -/
theorem FarD.back (hK : CostM n K) {s : Nat} (ht : t < n) (hs : s < n) (hD : FarD n t K D) (hS : FarD n s K D') : D s = D' t :=
  Int.le_antisymm (hD.there hK ht hs hS) (hS.there hK hs ht hD)

theorem FarD.pos (hK : CostM n K) (hD : FarD n t K D) {i : Nat} (hi : i < n) (hne : i ≠ t) : 1 ≤ D i := by
  by_cases h16 : D i < 16
  · obtain ⟨k, hk, hne, -, he⟩ := hD.att i hi hne h16
    have := hK.low i k hi hk (fun e => hne e.symm)
    have := hD.low k hk
    omega
  · omega

theorem FarD.congr (hD : FarD n t K D) (ht : t < n) (h : ∀ i, i < n → D i = D' i) : FarD n t K D' where
  zero := by rw [← h t ht]; exact hD.zero
  low i hi := by rw [← h i hi]; exact hD.low i hi
  high i hi := by rw [← h i hi]; exact hD.high i hi
  tri i k hi hk := by rw [← h i hi, ← h k hk]; exact hD.tri i k hi hk
  att i hi hne hlt := by
    rw [← h i hi] at hlt ⊢
    obtain ⟨k, hk, h1, h2, h3⟩ := hD.att i hi hne hlt
    exact ⟨k, hk, h1, h2, by rw [← h k hk]; exact h3⟩
end

section
variable {n m t : Nat} {a b c : Nat → Int}
theorem cost_m (hr : Right n m a b c) : CostM n (costF m a b c) where
  same i _ := costV_same m
  low i k _ _ hne := by
    show 1 ≤ costV m a b c i k
    rcases costV_cases hr i k with ⟨e, -⟩ | ⟨-, e, -⟩ | ⟨-, he⟩
    · exact absurd e hne
    · omega
    · exact (he.ok hr).2.2.2.1
  high i k _ _ := (costV_ranged hr i k).2
  back i k _ _ := by
    show costV m a b c i k = costV m a b c k i
    rcases costV_cases hr i k with ⟨e, -⟩ | ⟨hne, e, hno⟩ | ⟨hne, he⟩
    · subst e; rfl
    · rcases costV_cases hr k i with ⟨e', -⟩ | ⟨-, e', -⟩ | ⟨-, he⟩
      · exact absurd e'.symm hne
      · rw [e, e']
      · exact absurd he.symm (hno _)
    · exact (costV_edge hr he.symm).symm

theorem cost_edge (hr : Right n m a b c) {i k : Nat} (hne : k ≠ i) (h : costF m a b c i k < 16) : Edge m a b c i k (costF m a b c i k) := by
  rcases costV_cases hr i k with ⟨e, -⟩ | ⟨-, e, hno⟩ | ⟨-, he⟩
  · exact absurd e.symm hne
  · have : costF m a b c i k = 16 := e
    omega
  · exact he

theorem end_zero (hr : Right n m a b c) (ht : t < n) : endF t a b c m t = 0 := by
  have h1 := (end_fixed (t := t) hr t ht).1
  have h2 := (end_ranged (t := t) hr t ht).1
  unfold startF at h1
  rw [if_pos rfl] at h1
  omega

theorem far_end (hr : Right n m a b c) (ht : t < n) : FarD n t (costF m a b c) (endF t a b c m) where
  zero := end_zero hr ht
  low i hi := (end_ranged hr i hi).1
  high i hi := (end_ranged hr i hi).2
  tri i k hi hk := by
    have hl := (end_ranged (t := t) hr k hk).1
    have hh := (end_ranged (t := t) hr i hi).2
    by_cases e : k = i
    · subst e; rw [(cost_m hr).same k hk]; omega
    · by_cases h16 : costF m a b c i k < 16
      · exact (end_fixed (t := t) hr i hi).2.1 k _ (cost_edge hr e h16)
      · omega
  att i hi hne hlt := by
    rcases (end_fixed (t := t) hr i hi).2.2 with h | ⟨v, k, he, h⟩
    · unfold startF at h
      rw [if_neg hne] at h
      omega
    · obtain ⟨-, hv, hn, -, h15⟩ := he.ok hr
      have e : costF m a b c i v = k := costV_edge hr he
      exact ⟨v, hv, fun e => hn e.symm, by omega, by rw [e]; exact h⟩
end

end Go.Proofs.YtminfghiejgieaaDoor

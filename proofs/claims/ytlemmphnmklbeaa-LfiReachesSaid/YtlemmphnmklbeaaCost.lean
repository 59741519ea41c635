/- The walk of waywardenref1.CostOf: the cost of the link between two. -/
import Derived.Test.YtlemmphnmklbeaaBellMath
import Derived.Test.YtlemmphnmklbeaaSame
namespace Go.Proofs.Ytlemmphnmklbeaa
open Go.RowKit
set_option linter.unusedVariables false

theorem Lnk.drewN {w : World} {A : Option Addr} {n : Nat} {a b c : Nat → Int} (h : Lnk w A n a b c) (k : Nat) : Lnk (w.drewN k) A n a b c := h

/-- Link j is between u and v. -/
def Mt (a b : Nat → Int) (j : Nat) (u v : Int) : Prop := (a j = u ∧ b j = v) ∨ (a j = v ∧ b j = u)

instance (a b : Nat → Int) (j : Nat) (u v : Int) : Decidable (Mt a b j u v) := inferInstanceAs (Decidable (_ ∨ _))

/-- The first of m links between u and v. -/
def firstM (a b : Nat → Int) (u v : Int) : Nat → Option Nat
  | 0 => none
  | m + 1 => match firstM a b u v m with
    | some j => some j
    | none => if Mt a b m u v then some m else none

/-- The cost of the link between two; 0 of one to itself, 16: there is none. -/
def costV (m : Nat) (a b c : Nat → Int) (u v : Int) : Int := if u = v then 0 else match firstM a b u v m with
  | some j => c j
  | none => 16

section
variable {a b c : Nat → Int} {u v : Int}
theorem firstM_none : ∀ m, (∀ j, j < m → ¬ Mt a b j u v) → firstM a b u v m = none
  | 0, _ => rfl
  | m + 1, h => by
    unfold firstM
    rw [firstM_none m fun j hj => h j (by omega)]
    simp only [if_neg (h m (by omega))]
theorem firstM_at : ∀ m j, j < m → (∀ i, i < j → ¬ Mt a b i u v) → Mt a b j u v → firstM a b u v m = some j
  | 0, j, hj, _, _ => absurd hj (by omega)
  | m + 1, j, hj, h, hm => by
    unfold firstM
    rcases Nat.lt_or_ge j m with hlt | hge
    · rw [firstM_at m j hlt h hm]
    · obtain rfl : j = m := by omega
      rw [firstM_none j h]
      simp only [if_pos hm]
theorem firstM_some : ∀ m j, firstM a b u v m = some j → j < m ∧ Mt a b j u v
  | 0, j, h => by cases h
  | m + 1, j, h => by
    unfold firstM at h
    cases hf : firstM a b u v m with
    | some i =>
      rw [hf] at h
      injection h with h
      subst h
      obtain ⟨h1, h2⟩ := firstM_some m i hf
      exact ⟨by omega, h2⟩
    | none =>
      rw [hf] at h
      by_cases hm : Mt a b m u v
      · simp only [if_pos hm] at h
        injection h with h
        subst h
        exact ⟨by omega, hm⟩
      · simp only [if_neg hm] at h
        cases h
theorem costV_same (m : Nat) : costV m a b c u u = 0 := by unfold costV; rw [if_pos rfl]
theorem costV_none {m : Nat} (hne : u ≠ v) (h : ∀ j, j < m → ¬ Mt a b j u v) : costV m a b c u v = 16 := by unfold costV; rw [if_neg hne, firstM_none m h]
theorem costV_at {m j : Nat} (hne : u ≠ v) (hj : j < m) (h : ∀ i, i < j → ¬ Mt a b i u v) (hm : Mt a b j u v) : costV m a b c u v = c j := by unfold costV; rw [if_neg hne, firstM_at m j hj h hm]

theorem Mt.edge {n m : Nat} (hr : Right n m a b c) {j : Nat} (hj : j < m) {p q : Nat} : Mt a b j p q ↔ ((nA a j = p ∧ nA b j = q) ∨ (nA a j = q ∧ nA b j = p)) := by
  obtain ⟨-, -, -, -, -, ea, eb⟩ := right_nat hr hj
  unfold Mt
  rw [ea, eb]
  omega

/-- What a cost of right links is. -/
theorem costV_cases {n m : Nat} (hr : Right n m a b c) (p q : Nat) : (p = q ∧ costV m a b c p q = 0) ∨ (p ≠ q ∧ costV m a b c p q = 16 ∧ ∀ k, ¬ Edge m a b c p q k) ∨ (p ≠ q ∧ Edge m a b c p q (costV m a b c p q)) := by
  by_cases hpq : p = q
  · subst hpq
    exact .inl ⟨rfl, costV_same m⟩
  · have hne : (p : Int) ≠ q := by omega
    cases hf : firstM a b (p : Int) q m with
    | some j =>
      obtain ⟨hj, hm⟩ := firstM_some m j hf
      have e : costV m a b c p q = c j := by unfold costV; rw [if_neg hne, hf]
      rw [e]
      exact .inr (.inr ⟨hpq, j, hj, rfl, (Mt.edge hr hj).1 hm⟩)
    | none =>
      have e : costV m a b c p q = 16 := by unfold costV; rw [if_neg hne, hf]
      refine .inr (.inl ⟨hpq, e, fun k ⟨j, hj, _, hm⟩ => ?_⟩)
      by_cases hall : ∀ i, i < m → ¬ Mt a b i p q
      · exact hall j hj ((Mt.edge hr hj).2 hm)
      · have hex : ∃ i, i < m ∧ Mt a b i p q := Classical.byContradiction fun hno => hall fun i hi hmi => hno ⟨i, hi, hmi⟩
        obtain ⟨i, hi, hmi⟩ := hex
        have h2 : ∀ M, i < M → firstM a b (p : Int) q M ≠ none := by
          intro M
          induction M with
          | zero => intro h; omega
          | succ M ih =>
            intro h
            unfold firstM
            cases hfM : firstM a b (p : Int) q M with
            | some x => simp
            | none =>
              rcases Nat.lt_or_ge i M with hlt | hge
              · exact absurd hfM (ih hlt)
              · obtain rfl : i = M := by omega
                simp [hmi]
        exact h2 m hi hf

theorem costV_edge {n m : Nat} (hr : Right n m a b c) {p q : Nat} {k : Int} (h : Edge m a b c p q k) : costV m a b c p q = k := by
  rcases costV_cases hr p q with ⟨e, -⟩ | ⟨-, -, hno⟩ | ⟨-, he⟩
  · exact absurd e (h.ok hr).2.2.1
  · exact absurd h (hno k)
  · exact he.one hr h

theorem costV_ranged {n m : Nat} (hr : Right n m a b c) (p q : Nat) : 0 ≤ costV m a b c p q ∧ costV m a b c p q ≤ 16 := by
  rcases costV_cases hr p q with ⟨-, e⟩ | ⟨-, e, -⟩ | ⟨-, he⟩
  · omega
  · omega
  · have := he.ok hr
    omega
end

end Go.Proofs.Ytlemmphnmklbeaa

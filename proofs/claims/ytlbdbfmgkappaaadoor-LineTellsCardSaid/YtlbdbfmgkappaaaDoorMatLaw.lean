/- What two tables, one after the other, come to: plain laws. -/
import Derived.Test.YtlbdbfmgkappaaaDoorMatMul
namespace Go.Proofs.YtlbdbfmgkappaaaDoor
set_option linter.unusedVariables false

theorem minTo_le16 (n : Nat) (F : Nat → Int) : minTo n F ≤ 16 := by
  induction n with
  | zero => exact Int.le_refl _
  | succ n ih => unfold minTo; omega

theorem minTo_le {n : Nat} {F : Nat → Int} {j : Nat} (hj : j < n) : minTo n F ≤ F j := by
  induction n with
  | zero => omega
  | succ n ih =>
    unfold minTo
    rcases Nat.lt_or_ge j n with h | h
    · have := ih h; omega
    · obtain rfl : j = n := by omega
      omega

theorem le_minTo {n : Nat} {F : Nat → Int} {c : Int} (hc : c ≤ 16) (h : ∀ j, j < n → c ≤ F j) : c ≤ minTo n F := by
  induction n with
  | zero => exact hc
  | succ n ih =>
    unfold minTo
    have h1 := ih fun j hj => h j (by omega)
    have h2 := h n (by omega)
    omega

theorem minTo_cases (n : Nat) (F : Nat → Int) : minTo n F = 16 ∨ ∃ j, j < n ∧ minTo n F = F j := by
  induction n with
  | zero => exact .inl rfl
  | succ n ih =>
    unfold minTo
    by_cases hlt : minTo n F ≤ F n
    · have e : min (minTo n F) (F n) = minTo n F := by omega
      rw [e]
      rcases ih with h | ⟨j, hj, h⟩
      · exact .inl h
      · exact .inr ⟨j, by omega, h⟩
    · exact .inr ⟨n, by omega, by omega⟩

theorem Ranged.mul {n : Nat} {a b : Nat → Nat → Int} (ha : Ranged n a) (hb : Ranged n b) : Ranged n (mulF n a b) := fun i k hi hk =>
  ⟨le_minTo (by omega) fun j hj => by have := ha i j hi hj; have := hb j k hj hk; omega, minTo_le16 _ _⟩

theorem Ranged.one (n : Nat) : Ranged n oneF := fun i k _ _ => by
  unfold oneF
  by_cases h : i = k
  · rw [if_pos h]; omega
  · rw [if_neg h]; omega

theorem Good.mk' {n : Nat} {f : Nat → Nat → Int} (h1 : 1 ≤ n) (h8 : n ≤ 8) (h : Ranged n f) : Good n (fun _ => n) f := ⟨⟨h1, h8, fun _ _ => rfl⟩, h⟩

theorem mul_assoc_ {n : Nat} {a b c : Nat → Nat → Int} (ha : Ranged n a) (hb : Ranged n b) (hc : Ranged n c) {i k : Nat} (hi : i < n) (hk : k < n) :
    mulF n (mulF n a b) c i k = mulF n a (mulF n b c) i k := by
  apply Int.le_antisymm
  · refine le_minTo (minTo_le16 _ _) fun p hp => ?_
    show mulF n (mulF n a b) c i k ≤ a i p + mulF n b c p k
    have h0 := ha i p hi hp
    rcases minTo_cases n (fun j => b p j + c j k) with h | ⟨j, hj, h⟩
    · have h1 : mulF n b c p k = 16 := h
      have h2 : mulF n (mulF n a b) c i k ≤ 16 := minTo_le16 _ _
      omega
    · have h1 : mulF n b c p k = b p j + c j k := h
      have h2 : mulF n (mulF n a b) c i k ≤ mulF n a b i j + c j k := minTo_le (F := fun j => mulF n a b i j + c j k) hj
      have h3 : mulF n a b i j ≤ a i p + b p j := minTo_le (F := fun p => a i p + b p j) hp
      omega
  · refine le_minTo (minTo_le16 _ _) fun j hj => ?_
    show mulF n a (mulF n b c) i k ≤ mulF n a b i j + c j k
    have h0 := hc j k hj hk
    rcases minTo_cases n (fun p => a i p + b p j) with h | ⟨p, hp, h⟩
    · have h1 : mulF n a b i j = 16 := h
      have h2 : mulF n a (mulF n b c) i k ≤ 16 := minTo_le16 _ _
      omega
    · have h1 : mulF n a b i j = a i p + b p j := h
      have h2 : mulF n a (mulF n b c) i k ≤ a i p + mulF n b c p k := minTo_le (F := fun p => a i p + mulF n b c p k) hp
      have h3 : mulF n b c p k ≤ b p j + c j k := minTo_le (F := fun j => b p j + c j k) hj
      omega

theorem one_mul_ {n : Nat} {a : Nat → Nat → Int} (ha : Ranged n a) {i k : Nat} (hi : i < n) (hk : k < n) : mulF n oneF a i k = a i k := by
  apply Int.le_antisymm
  · have h : mulF n oneF a i k ≤ oneF i i + a i k := minTo_le (F := fun j => oneF i j + a j k) hi
    simp [oneF] at h
    exact h
  · refine le_minTo (ha i k hi hk).2 fun j hj => ?_
    have h1 := ha i k hi hk
    have h2 := ha j k hj hk
    show a i k ≤ oneF i j + a j k
    unfold oneF
    by_cases e : i = j
    · subst e; rw [if_pos rfl]; omega
    · rw [if_neg e]; omega

theorem mul_one_ {n : Nat} {a : Nat → Nat → Int} (ha : Ranged n a) {i k : Nat} (hi : i < n) (hk : k < n) : mulF n a oneF i k = a i k := by
  apply Int.le_antisymm
  · have h : mulF n a oneF i k ≤ a i k + oneF k k := minTo_le (F := fun j => a i j + oneF j k) hk
    simp [oneF] at h
    exact h
  · refine le_minTo (ha i k hi hk).2 fun j hj => ?_
    have h1 := ha i k hi hk
    have h2 := ha i j hi hj
    show a i k ≤ a i j + oneF j k
    unfold oneF
    by_cases e : j = k
    · subst e; rw [if_pos rfl]; omega
    · rw [if_neg e]; omega

end Go.Proofs.YtlbdbfmgkappaaaDoor

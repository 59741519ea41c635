/- The star of a table: over one node after the other. Plain laws. -/
import Derived.Test.YtlbdbfmgkappaaaDoorMatLaw
namespace Go.Proofs.YtlbdbfmgkappaaaDoor
set_option linter.unusedVariables false

/-- The table with no way from a node to itself longer than none. -/
def zeroF (a : Nat → Nat → Int) (i k : Nat) : Int := if i = k then 0 else a i k

/-- Over node j too. -/
def overF (f : Nat → Nat → Int) (j i k : Nat) : Int := min (f i k) (f i j + f j k)

/-- Over the first j nodes. -/
def starTo (a : Nat → Nat → Int) : Nat → Nat → Nat → Int
  | 0 => zeroF a
  | j + 1 => overF (starTo a j) j

/-- The star. -/
def starF (n : Nat) (a : Nat → Nat → Int) : Nat → Nat → Int := starTo a n

/-- Steps by the table, and what they come to. -/
inductive Steps (n : Nat) (a : Nat → Nat → Int) : Nat → Nat → Int → Prop
  | none (i : Nat) : i < n → Steps n a i i 0
  | more (i j k : Nat) (s : Int) : i < n → Steps n a j k s → Steps n a i k (a i j + s)

section
variable {n : Nat} {a : Nat → Nat → Int}
theorem Steps.fst {i k : Nat} {s : Int} (h : Steps n a i k s) : i < n := by cases h <;> assumption
theorem Steps.snd {i k : Nat} {s : Int} (h : Steps n a i k s) : k < n := by
  induction h with
  | none i h => exact h
  | more i j k s _ _ ih => exact ih
theorem Steps.join {i j k : Nat} {s t : Int} (h : Steps n a i j s) (h' : Steps n a j k t) : Steps n a i k (s + t) := by
  induction h with
  | none i _ => simpa using h'
  | more i p j s hi _ ih => rw [Int.add_assoc]; exact Steps.more _ _ _ _ hi (ih h')

theorem star_ranged (h : Ranged n a) : ∀ j, j ≤ n → Ranged n (starTo a j)
  | 0, _ => fun i k hi hk => by
    have := h i k hi hk
    show 0 ≤ zeroF a i k ∧ zeroF a i k ≤ 16
    unfold zeroF
    split <;> omega
  | j + 1, hj => fun i k hi hk => by
    have ih := star_ranged h j (by omega)
    have h0 := ih i k hi hk
    have h1 := ih i j hi (by omega)
    have h2 := ih j k (by omega) hk
    show 0 ≤ overF (starTo a j) j i k ∧ overF (starTo a j) j i k ≤ 16
    unfold overF
    omega

theorem star_diag (h : Ranged n a) : ∀ j, j ≤ n → ∀ i, i < n → starTo a j i i = 0
  | 0, _, i, hi => by show zeroF a i i = 0; unfold zeroF; rw [if_pos rfl]
  | j + 1, hj, i, hi => by
    have h0 := star_diag h j (by omega) i hi
    have h1 := star_ranged h j (by omega) i j hi (by omega)
    have h2 := star_ranged h j (by omega) j i (by omega) hi
    show overF (starTo a j) j i i = 0
    unfold overF
    omega

theorem star_falls (a : Nat → Nat → Int) (j i k : Nat) : starTo a (j + 1) i k ≤ starTo a j i k := by
  show overF (starTo a j) j i k ≤ starTo a j i k
  unfold overF
  omega

theorem star_table (h : Ranged n a) (i k : Nat) (hi : i < n) (hk : k < n) : ∀ j, starTo a j i k ≤ a i k
  | 0 => by
    have := h i k hi hk
    show zeroF a i k ≤ a i k
    unfold zeroF
    split <;> omega
  | j + 1 => by
    have := star_falls a j i k
    have := star_table h i k hi hk j
    omega

/-- Over each of the first j nodes there is no shorter way. -/
theorem star_over (h : Ranged n a) : ∀ j, j ≤ n → ∀ q, q < j → ∀ i k, i < n → k < n → starTo a j i k ≤ starTo a j i q + starTo a j q k
  | 0, _, q, hq, _, _, _, _ => absurd hq (by omega)
  | j + 1, hj, q, hq, i, k, hi, hk => by
    have hR := star_ranged h j (by omega)
    have hjj := star_diag h j (by omega) j (by omega)
    show overF (starTo a j) j i k ≤ overF (starTo a j) j i q + overF (starTo a j) j q k
    unfold overF
    have r1 := hR j k (by omega) hk
    have r2 := hR i j hi (by omega)
    by_cases e : q = j
    · subst e
      omega
    · have ih := star_over h j (by omega) q (by omega)
      have i1 := ih i k hi hk
      have i2 := ih i j hi (by omega)
      have i3 := ih j k (by omega) hk
      have r3 := hR j q (by omega) (by omega)
      have r4 := hR q j (by omega) (by omega)
      omega

theorem star_tri (h : Ranged n a) {i q k : Nat} (hi : i < n) (hq : q < n) (hk : k < n) : starF n a i k ≤ starF n a i q + starF n a q k :=
  star_over h n (Nat.le_refl _) q hq i k hi hk

/-- Each is what some steps come to. -/
theorem star_steps (h : Ranged n a) : ∀ j, j ≤ n → ∀ i k, i < n → k < n → Steps n a i k (starTo a j i k)
  | 0, _, i, k, hi, hk => by
    show Steps n a i k (zeroF a i k)
    unfold zeroF
    by_cases e : i = k
    · subst e
      rw [if_pos rfl]
      exact .none i hi
    · rw [if_neg e]
      have := Steps.more (a := a) i k k 0 hi (.none k hk)
      simpa using this
  | j + 1, hj, i, k, hi, hk => by
    have ih := star_steps h j (by omega)
    show Steps n a i k (overF (starTo a j) j i k)
    unfold overF
    rcases Int.le_total (starTo a j i k) (starTo a j i j + starTo a j j k) with hle | hle
    · rw [Int.min_eq_left hle]; exact ih i k hi hk
    · rw [Int.min_eq_right hle]; exact (ih i j hi (by omega)).join (ih j k (by omega) hk)

/-- No steps come to less. -/
theorem star_least (h : Ranged n a) {i k : Nat} {s : Int} (hs : Steps n a i k s) : starF n a i k ≤ s := by
  induction hs with
  | none i hi => exact Int.le_of_eq (star_diag h n (Nat.le_refl _) i hi)
  | more i j k s hi hs ih =>
    have h1 := star_tri h hi hs.fst hs.snd
    have h2 := star_table h i j hi hs.fst n
    have : starF n a i j = starTo a n i j := rfl
    omega

/-- KLEENE: a star is One, or one step and a star. -/
theorem star_one (h : Ranged n a) {i k : Nat} (hi : i < n) (hk : k < n) : starF n a i k = min (mulF n a (starF n a) i k) (oneF i k) := by
  have hR := star_ranged h n (Nat.le_refl _)
  have h16 := (hR i k hi hk).2
  have e : starF n a i k = starTo a n i k := rfl
  apply Int.le_antisymm
  · have h1 : starF n a i k ≤ mulF n a (starF n a) i k := le_minTo (by omega) fun j hj => by
      have h1 := star_tri h hi hj hk
      have h2 := star_table h i j hi hj n
      have e : starF n a i j = starTo a n i j := rfl
      show starF n a i k ≤ a i j + starF n a j k
      omega
    have h2 : starF n a i k ≤ oneF i k := by
      unfold oneF
      by_cases e : i = k
      · subst e
        rw [if_pos rfl]
        exact Int.le_of_eq (star_diag h n (Nat.le_refl _) i hi)
      · rw [if_neg e]; omega
    omega
  · have hs := star_steps h n (Nat.le_refl _) i k hi hk
    have e : starTo a n i k = starF n a i k := rfl
    rw [e] at hs
    generalize hx : starF n a i k = x at hs
    cases hs with
    | none =>
      have : oneF i i = 0 := by unfold oneF; rw [if_pos rfl]
      omega
    | more _ j _ s _ hs =>
      have h1 : mulF n a (starF n a) i k ≤ a i j + starF n a j k := minTo_le hs.fst
      have h2 := star_least h hs
      omega

theorem star_twice (h : Ranged n a) : ∀ j, j ≤ n → ∀ i k, i < n → k < n → starTo (starF n a) j i k = starF n a i k
  | 0, _, i, k, hi, hk => by
    show zeroF (starF n a) i k = _
    unfold zeroF
    by_cases e : i = k
    · subst e
      rw [if_pos rfl]
      exact (star_diag h n (Nat.le_refl _) i hi).symm
    · rw [if_neg e]
  | j + 1, hj, i, k, hi, hk => by
    have ih := star_twice h j (by omega)
    show overF (starTo (starF n a) j) j i k = _
    unfold overF
    rw [ih i k hi hk, ih i j hi (by omega), ih j k (by omega) hk]
    have := star_tri h hi (show j < n by omega) hk
    omega

theorem star_idem (h : Ranged n a) {i k : Nat} (hi : i < n) (hk : k < n) : mulF n (starF n a) (starF n a) i k = starF n a i k := by
  have h16 := (star_ranged h n (Nat.le_refl _) i k hi hk).2
  have e : starF n a i k = starTo a n i k := rfl
  apply Int.le_antisymm
  · have h1 : mulF n (starF n a) (starF n a) i k ≤ starF n a i i + starF n a i k := minTo_le hi
    have h2 : starF n a i i = 0 := star_diag h n (Nat.le_refl _) i hi
    omega
  · exact le_minTo (by omega) fun j hj => star_tri h hi hj hk

/-- In the middle of a round over node j: the rows ahead of i are turned, of row i what is ahead of k. -/
def midF (f : Nat → Nat → Int) (j i k p q : Nat) : Int := if p < i ∨ (p = i ∧ q < k) then overF f j p q else f p q

theorem mid_row {f : Nat → Nat → Int} {j i k : Nat} (hR : Ranged n f) (hd : f j j = 0) (hj : j < n) {q : Nat} (hq : q < n) : midF f j i k j q = f j q := by
  unfold midF
  split
  · unfold overF
    have := hR j q hj hq
    omega
  · rfl
theorem mid_col {f : Nat → Nat → Int} {j i k : Nat} (hR : Ranged n f) (hd : f j j = 0) (hj : j < n) {p : Nat} (hp : p < n) : midF f j i k p j = f p j := by
  unfold midF
  split
  · unfold overF
    have := hR p j hp hj
    omega
  · rfl
theorem mid_start (f : Nat → Nat → Int) (j p q : Nat) : midF f j 0 0 p q = f p q := by unfold midF; rw [if_neg (by omega)]
theorem mid_next (f : Nat → Nat → Int) (j i p q : Nat) (hq : q < n) : midF f j i n p q = midF f j (i + 1) 0 p q := by
  unfold midF
  by_cases h : p < i + 1
  · rw [if_pos (by omega), if_pos (by omega)]
  · rw [if_neg (by omega), if_neg (by omega)]
theorem mid_end (f : Nat → Nat → Int) (j p q : Nat) (hp : p < n) : midF f j n 0 p q = overF f j p q := by unfold midF; rw [if_pos (by omega)]
end

end Go.Proofs.YtlbdbfmgkappaaaDoor

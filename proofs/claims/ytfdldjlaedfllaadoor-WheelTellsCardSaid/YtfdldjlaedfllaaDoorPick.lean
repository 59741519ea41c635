/- Those that are so, one after the other: a list by its index. -/
import Derived.Test.YtfdldjlaedfllaaDoorTouch
namespace Go.Proofs.YtfdldjlaedfllaaDoor
open Go.RowKit
set_option linter.unusedVariables false

/-- A list's numbers, by their index. -/
def atL (l : List Int) (j : Nat) : Int := l.getD j 0

theorem atL_snoc (l : List Int) (z : Int) : ∀ i, i < l.length + 1 → upd (atL l) l.length z i = atL (l ++ [z]) i := by
  intro i hi
  unfold upd atL
  by_cases h : i = l.length
  · subst h; simp
  · rw [if_neg h, List.getD_eq_getElem?_getD, List.getD_eq_getElem?_getD, List.getElem?_append_left (by omega)]

theorem atL_mem {l : List Int} {z : Int} : (∃ j, j < l.length ∧ atL l j = z) ↔ z ∈ l := by
  constructor
  · rintro ⟨j, hj, rfl⟩
    unfold atL
    rw [List.getD_eq_getElem?_getD, List.getElem?_eq_getElem hj]
    exact List.getElem_mem _
  · intro h
    obtain ⟨j, hj, e⟩ := List.getElem_of_mem h
    exact ⟨j, hj, by unfold atL; rw [List.getD_eq_getElem?_getD, List.getElem?_eq_getElem hj]; exact e⟩

/-- Those below r that are so, one after the other. -/
def pickL (p : Nat → Bool) (r : Nat) : List Int := ((List.range r).filter p).map fun k : Nat => (k : Int)

theorem pickL_yes {p : Nat → Bool} {r : Nat} (h : p r = true) : pickL p (r + 1) = pickL p r ++ [(r : Int)] := by
  unfold pickL
  rw [List.range_succ, List.filter_append, List.map_append]
  simp [h]
theorem pickL_no {p : Nat → Bool} {r : Nat} (h : p r = false) : pickL p (r + 1) = pickL p r := by
  unfold pickL
  rw [List.range_succ, List.filter_append, List.map_append]
  simp [h]
theorem pickL_len (p : Nat → Bool) (r : Nat) : (pickL p r).length ≤ r := by
  unfold pickL
  rw [List.length_map]
  have := List.length_filter_le p (List.range r)
  simpa using this
theorem pickL_mem {p : Nat → Bool} {r k : Nat} : (k : Int) ∈ pickL p r ↔ k < r ∧ p k = true := by
  unfold pickL
  simp only [List.mem_map, List.mem_filter, List.mem_range]
  constructor
  · rintro ⟨j, ⟨h1, h2⟩, e⟩
    have : j = k := by omega
    subst this
    exact ⟨h1, h2⟩
  · intro h
    exact ⟨k, h, rfl⟩

end Go.Proofs.YtfdldjlaedfllaaDoor

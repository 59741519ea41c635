/- The memory of spf's places: a pointer to a slice of pairs. -/
import Derived.Test.YtminfghiejgieaaDoorSpfMath
import Derived.Test.YtminfghiejgieaaDoorTouch
namespace Go.Proofs.YtminfghiejgieaaDoor
open Go.RowKit
set_option linter.unusedVariables false

/-- The cells of places: how far, which node. -/
def placeC (F G : Nat → Int) (t : Nat) : Value := if t % 2 = 0 then .int .i64 (F (t / 2)) else .int .i64 (G (t / 2))
theorem placeC0 (F G : Nat → Int) (i : Nat) : placeC F G (i * 2) = .int .i64 (F i) := by
  unfold placeC
  rw [if_pos (by omega), show i * 2 / 2 = i by omega]
theorem placeC1 (F G : Nat → Int) (i : Nat) : placeC F G (i * 2 + 1) = .int .i64 (G i) := by
  unfold placeC
  rw [if_neg (by omega), show (i * 2 + 1) / 2 = i by omega]

/-- The places as a list. -/
def plL (n : Nat) (F G : Nat → Int) : List (Int × Nat) := (List.range n).map fun i => (F i, (G i).toNat)
theorem plL_mem {n : Nat} {F G : Nat → Int} {e : Int × Nat} : e ∈ plL n F G ↔ ∃ i, i < n ∧ e = (F i, (G i).toNat) := by
  unfold plL
  rw [List.mem_map]
  constructor
  · rintro ⟨i, hi, rfl⟩
    exact ⟨i, List.mem_range.1 hi, rfl⟩
  · rintro ⟨i, hi, rfl⟩
    exact ⟨i, List.mem_range.2 hi, rfl⟩
theorem plL_len (n : Nat) (F G : Nat → Int) : (plL n F G).length = n := by
  unfold plL
  rw [List.length_map, List.length_range]

/-- Two places exchanged. -/
def swapV (F : Nat → Int) (i j : Nat) : Nat → Int := upd (upd F i (F j)) j (F i)
theorem swapV_at (F : Nat → Int) (i j k : Nat) : swapV F i j k = if k = j then F i else if k = i then F j else F k := by
  unfold swapV upd
  rfl

/-- The same places, in another order. -/
def Same2 (n : Nat) (F G F' G' : Nat → Int) : Prop := (∀ i, i < n → ∃ j, j < n ∧ F' i = F j ∧ G' i = G j) ∧ ∀ i, i < n → ∃ j, j < n ∧ F i = F' j ∧ G i = G' j
theorem Same2.refl (n : Nat) (F G : Nat → Int) : Same2 n F G F G := ⟨fun i hi => ⟨i, hi, rfl, rfl⟩, fun i hi => ⟨i, hi, rfl, rfl⟩⟩
theorem Same2.trans {n : Nat} {F G F' G' F2 G2 : Nat → Int} (h : Same2 n F G F' G') (k : Same2 n F' G' F2 G2) : Same2 n F G F2 G2 :=
  ⟨fun i hi => by
    obtain ⟨j, hj, e1, e2⟩ := k.1 i hi
    obtain ⟨l, hl, e3, e4⟩ := h.1 j hj
    exact ⟨l, hl, e1.trans e3, e2.trans e4⟩, fun i hi => by
    obtain ⟨j, hj, e1, e2⟩ := h.2 i hi
    obtain ⟨l, hl, e3, e4⟩ := k.2 j hj
    exact ⟨l, hl, e1.trans e3, e2.trans e4⟩⟩
theorem Same2.swap {n : Nat} (F G : Nat → Int) {i j : Nat} (hi : i < n) (hj : j < n) : Same2 n F G (swapV F i j) (swapV G i j) := by
  have h : ∀ k, k < n → ∃ l, l < n ∧ swapV F i j k = F l ∧ swapV G i j k = G l ∧ swapV F i j l = F k ∧ swapV G i j l = G k := fun k hk => by
    by_cases e1 : k = j
    · refine ⟨i, hi, ?_⟩
      simp only [swapV_at]
      subst e1
      by_cases e2 : i = k
      · subst e2; simp
      · simp [e2]
    · by_cases e2 : k = i
      · refine ⟨j, hj, ?_⟩
        simp only [swapV_at]
        subst e2
        simp [e1]
      · refine ⟨k, hk, ?_⟩
        simp only [swapV_at]
        simp [e1, e2]
  exact ⟨fun k hk => by obtain ⟨l, hl, a, b, -⟩ := h k hk; exact ⟨l, hl, a, b⟩, fun k hk => by obtain ⟨l, hl, -, -, a, b⟩ := h k hk; exact ⟨l, hl, a.symm, b.symm⟩⟩

end Go.Proofs.YtminfghiejgieaaDoor

/- A step of the line: all think anew. -/
import Derived.Test.YtminfghiejgieaaDoorLineMem
import Derived.Test.YtminfghiejgieaaDoorCosts
namespace Go.Proofs.YtminfghiejgieaaDoor
open Go.RowKit
set_option linter.unusedVariables false

/-- What node i thinks of t in the middle of a step: k neighbours have told. -/
def midT (po : Bool) (K : Nat → Nat → Int) (f g : Nat → Int) (t i k : Nat) : Int × Int := if i = t then (0, -1) else bestF po K f g i k
/-- A row in the middle: of the first t nodes it is known. -/
def rowT (po : Bool) (n : Nat) (K F G : Nat → Nat → Int) (i t u : Nat) : Int × Int := if u < t then thinkF po n u K (fun k => F k u) (fun k => G k u) i else if u = i then (0, -1) else (16, -1)

theorem best_succ (po : Bool) (K : Nat → Nat → Int) (f g : Nat → Int) (i q : Nat) : bestF po K f g i (q + 1) = if q ≠ i ∧ K i q < 16 ∧ K i q + toldF po f g i q < (bestF po K f g i q).1 then (K i q + toldF po f g i q, (q : Int)) else bestF po K f g i q := rfl

theorem place_row {w : World} {g n : Nat} {T : TypeId} {f f' : Nat → Int × Int} (h : RowP w g T (n * 2) (placeC (fun u => (f u).1) (fun u => (f u).2))) (e : ∀ u, u < n → f u = f' u) : RowP w g T (n * 2) (placeC (fun u => (f' u).1) (fun u => (f' u).2)) := h.congr fun q hq => by
  unfold placeC
  simp only [e (q / 2) (by omega)]

section
variable {po : Bool} {n : Nat} {K F G : Nat → Nat → Int} {i t k : Nat}
theorem rowT_next (u : Nat) : rowT po n K F G i (t + 1) u = upd (rowT po n K F G i t) t (midT po K (fun k => F k t) (fun k => G k t) t i n) u := by
  unfold rowT
  by_cases h : u < t
  · rw [if_pos (by omega), upd_other _ _ (by omega), if_pos h]
  · by_cases e : u = t
    · subst e
      rw [if_pos (by omega), upd_same]
      rfl
    · rw [if_neg (by omega), upd_other _ _ e, if_neg h]
theorem rowT_start (u : Nat) : rowT po n K F G i t u = upd (rowT po n K F G i t) t (midT po K (fun k => F k t) (fun k => G k t) t i 0) u := by
  by_cases e : u = t
  · subst e
    rw [upd_same]
    unfold rowT midT bestF
    rw [if_neg (by omega)]
    by_cases h : u = i
    · rw [if_pos h, if_pos h.symm]
    · rw [if_neg h, if_neg fun e => h e.symm]
  · rw [upd_other _ _ e]
theorem midT_skip (h : t = i ∨ k = i ∨ ¬ K i k < 16) : midT po K (fun k => F k t) (fun k => G k t) t i (k + 1) = midT po K (fun k => F k t) (fun k => G k t) t i k := by
  unfold midT
  by_cases e : i = t
  · rw [if_pos e, if_pos e]
  · rw [if_neg e, if_neg e]
    rw [best_succ, if_neg (by rintro ⟨h1, h2, -⟩; rcases h with h | h | h; exact e h.symm; exact h1 h; exact h h2)]
theorem midT_no (h1 : t ≠ i) (h : ¬ K i k + toldF po (fun k => F k t) (fun k => G k t) i k < (midT po K (fun k => F k t) (fun k => G k t) t i k).1) : midT po K (fun k => F k t) (fun k => G k t) t i (k + 1) = midT po K (fun k => F k t) (fun k => G k t) t i k := by
  unfold midT at h ⊢
  rw [if_neg (fun e => h1 e.symm)] at h
  rw [if_neg (fun e => h1 e.symm), if_neg (fun e => h1 e.symm)]
  rw [best_succ, if_neg (by rintro ⟨-, -, h3⟩; exact h h3)]
theorem midT_yes (h1 : t ≠ i) (h2 : k ≠ i) (h3 : K i k < 16) (h : K i k + toldF po (fun k => F k t) (fun k => G k t) i k < (midT po K (fun k => F k t) (fun k => G k t) t i k).1) : midT po K (fun k => F k t) (fun k => G k t) t i (k + 1) = (K i k + toldF po (fun k => F k t) (fun k => G k t) i k, (k : Int)) := by
  unfold midT at h ⊢
  rw [if_neg (fun e => h1 e.symm)] at h ⊢
  rw [best_succ, if_pos ⟨h2, h3, h⟩]
end

theorem upd_upd {α : Type} (f : Nat → α) (t : Nat) (p q : α) : upd (upd f t p) t q = upd f t q := by
  funext u
  by_cases e : u = t
  · subst e; rw [upd_same, upd_same]
  · rw [upd_other _ _ e, upd_other _ _ e, upd_other _ _ e]

theorem place_upd (f : Nat → Int × Int) (t : Nat) (p : Int × Int) (q : Nat) :
    upd (upd (placeC (fun u => (f u).1) (fun u => (f u).2)) (t * 2) (.int .i64 p.1)) (t * 2 + 1) (.int .i64 p.2) q = placeC (fun u => (upd f t p u).1) (fun u => (upd f t p u).2) q := by
  rcases Nat.mod_two_eq_zero_or_one q with hm | hm
  · obtain ⟨k, rfl⟩ : ∃ k, q = k * 2 := ⟨q / 2, by omega⟩
    rw [upd_other _ _ (by omega), placeC0]
    by_cases e : k = t
    · subst e; rw [upd_same, upd_same]
    · rw [upd_other _ _ (by omega), placeC0, upd_other _ _ e]
  · obtain ⟨k, rfl⟩ : ∃ k, q = k * 2 + 1 := ⟨q / 2, by omega⟩
    rw [placeC1]
    by_cases e : k = t
    · subst e; rw [upd_same, upd_same]
    · rw [upd_other _ _ (by omega), upd_other _ _ (by omega), placeC1, upd_other _ _ e]

theorem told_ranged {po : Bool} {f g : Nat → Int} {i k : Nat} (h : 0 ≤ f k ∧ f k ≤ 16) : 0 ≤ toldF po f g i k ∧ toldF po f g i k ≤ 16 := by
  unfold toldF
  split
  · omega
  · exact h

theorem mid_ranged {po : Bool} {n : Nat} {K : Nat → Nat → Int} {f g : Nat → Int} (hK : CostM n K) (hf : ∀ k, k < n → 0 ≤ f k ∧ f k ≤ 16) {t i : Nat} (hi : i < n) : ∀ k, k ≤ n → 0 ≤ (midT po K f g t i k).1 ∧ (midT po K f g t i k).1 ≤ 16 := by
  intro k hk
  unfold midT
  by_cases e : i = t
  · rw [if_pos e]; decide
  · rw [if_neg e]
    refine ⟨?_, best_le i k⟩
    rcases best_is (po := po) (K := K) (f := f) (g := g) i k with h | ⟨q, hq, -, -, h, -⟩
    · rw [h]; decide
    · rw [h]
      show 0 ≤ K i q + toldF po f g i q
      have h1 := hK.nonneg hi (show q < n by omega)
      have h2 := told_ranged (po := po) (g := g) (i := i) (hf q (by omega))
      omega

end Go.Proofs.YtminfghiejgieaaDoor

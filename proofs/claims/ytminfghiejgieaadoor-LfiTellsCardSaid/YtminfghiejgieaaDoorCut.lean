/- The walks of slices.DeleteFunc of links, graph.Cut. -/
import Derived.Test.YtminfghiejgieaaDoorLinks
import Derived.Test.YtminfghiejgieaaDoorPlain
namespace Go.Proofs.YtminfghiejgieaaDoor
open Go.RowKit
set_option linter.unusedVariables false

/-- f, without what stands at j. -/
def dropF (j : Nat) (f : Nat → Int) (t : Nat) : Int := if t < j then f t else f (t + 1)
/-- In the middle of that: all up to q has moved. -/
def delF (j q : Nat) (f : Nat → Int) (t : Nat) : Int := if t < j then f t else if t < q then f (t + 1) else f t

theorem delF_start (j : Nat) (f : Nat → Int) (t : Nat) : delF j j f t = f t := by
  unfold delF
  by_cases h : t < j
  · rw [if_pos h]
  · rw [if_neg h, if_neg h]
theorem delF_at (j q : Nat) (f : Nat → Int) (h : j ≤ q) : delF j q f (q + 1) = f (q + 1) := by unfold delF; rw [if_neg (by omega), if_neg (by omega)]
theorem delF_next (j q : Nat) (f : Nat → Int) (h : j ≤ q) (t : Nat) : (if t = q then f (q + 1) else delF j q f t) = delF j (q + 1) f t := by
  unfold delF
  by_cases e : t = q
  · subst e; rw [if_pos rfl, if_neg (by omega), if_pos (by omega)]
  · rw [if_neg e]
    by_cases h1 : t < j
    · rw [if_pos h1, if_pos h1]
    · rw [if_neg h1, if_neg h1]
      by_cases h2 : t < q
      · rw [if_pos h2, if_pos (by omega)]
      · rw [if_neg h2, if_neg (by omega)]
theorem delF_end (j q : Nat) (f : Nat → Int) (t : Nat) (h : t < q) : delF j q f t = dropF j f t := by
  unfold delF dropF
  by_cases h1 : t < j
  · rw [if_pos h1, if_pos h1]
  · rw [if_neg h1, if_neg h1, if_pos h]

theorem linkC_upd (A B C : Nat → Int) (r : Nat) (x y z : Int) (t : Nat) : upd (upd (upd (linkC A B C) (r * 3) (.int .i64 x)) (r * 3 + 1) (.int .i64 y)) (r * 3 + 2) (.int .i64 z) t = linkC (fun t => if t = r then x else A t) (fun t => if t = r then y else B t) (fun t => if t = r then z else C t) t := by
  unfold upd linkC
  by_cases h2 : t = r * 3 + 2
  · subst h2
    rw [if_pos rfl, if_neg (by omega), if_neg (by omega)]
    dsimp only
    rw [if_pos (by omega)]
  · rw [if_neg h2]
    by_cases h1 : t = r * 3 + 1
    · subst h1
      rw [if_pos rfl, if_neg (by omega), if_pos (by omega)]
      dsimp only
      rw [if_pos (by omega)]
    · rw [if_neg h1]
      by_cases h0 : t = r * 3
      · subst h0
        rw [if_pos rfl, if_pos (by omega)]
        dsimp only
        rw [if_pos (by omega)]
      · rw [if_neg h0]
        have e : t / 3 ≠ r := by omega
        simp only [if_neg e]

theorem zeroLink (w : World) : (zeroValue 69).run Tryd.prog w = .ok (.agg #[.int .i64 0, .int .i64 0, .int .i64 0]) w := by kernel_rfl

/-- Right links are few. -/
theorem right_small {n m : Nat} {a b c : Nat → Int} (hr : Right n m a b c) (hn : n ≤ 8) : m ≤ 64 := by
  refine pigeon 64 m (fun j => min (nA a j) (nA b j) * 8 + max (nA a j) (nA b j)) (fun j hj => ?_) fun i j hi hj e => ?_
  · obtain ⟨h1, h2, -⟩ := right_nat hr hj
    show min (nA a j) (nA b j) * 8 + max (nA a j) (nA b j) < 64
    omega
  · obtain ⟨h1, h2, -⟩ := right_nat hr hi
    obtain ⟨h3, h4, -⟩ := right_nat hr hj
    have e : min (nA a i) (nA b i) * 8 + max (nA a i) (nA b i) = min (nA a j) (nA b j) * 8 + max (nA a j) (nA b j) := e
    exact Edge.idx (u := nA a i) (v := nA b i) hr hi hj (.inl ⟨rfl, rfl⟩) (by omega)

/-- Where the t-th stood that is left. -/
def skipN (j t : Nat) : Nat := if t < j then t else t + 1
theorem dropF_skip (j : Nat) (f : Nat → Int) (t : Nat) : dropF j f t = f (skipN j t) := by
  unfold dropF skipN
  split <;> rfl
theorem skipN_lt {j t m : Nat} (hj : j < m) (ht : t < m - 1) : skipN j t < m := by unfold skipN; split <;> omega
theorem skipN_ne (j t : Nat) : skipN j t ≠ j := by unfold skipN; split <;> omega
theorem skipN_mono {j s t : Nat} (h : s < t) : skipN j s < skipN j t := by unfold skipN; split <;> split <;> omega
theorem skipN_of {j i m : Nat} (hj : j < m) (hi : i < m) (hne : i ≠ j) : ∃ t, t < m - 1 ∧ skipN j t = i := by
  by_cases h : i < j
  · exact ⟨i, by omega, by unfold skipN; rw [if_pos h]⟩
  · exact ⟨i - 1, by omega, by unfold skipN; rw [if_neg (by omega)]; omega⟩

section
variable {n m j : Nat} {a b c : Nat → Int}
theorem right_drop (hr : Right n m a b c) (hj : j < m) : Right n (m - 1) (dropF j a) (dropF j b) (dropF j c) := by
  intro t ht
  rw [dropF_skip, dropF_skip, dropF_skip]
  obtain ⟨h1, h2, h3⟩ := hr (skipN j t) (skipN_lt hj ht)
  refine ⟨h1, h2, fun s hs => ?_⟩
  rw [dropF_skip, dropF_skip]
  exact h3 _ (skipN_mono hs)
theorem nA_drop (f : Nat → Int) (t : Nat) : nA (dropF j f) t = nA f (skipN j t) := by unfold nA; rw [dropF_skip]
theorem edge_drop (hj : j < m) {u v : Nat} {k : Int} : Edge (m - 1) (dropF j a) (dropF j b) (dropF j c) u v k ↔ ∃ i, i < m ∧ i ≠ j ∧ c i = k ∧ ((nA a i = u ∧ nA b i = v) ∨ (nA a i = v ∧ nA b i = u)) := by
  constructor
  · rintro ⟨t, ht, hc, h⟩
    rw [dropF_skip] at hc
    rw [nA_drop, nA_drop] at h
    exact ⟨skipN j t, skipN_lt hj ht, skipN_ne j t, hc, h⟩
  · rintro ⟨i, hi, hne, hc, h⟩
    obtain ⟨t, ht, rfl⟩ := skipN_of hj hi hne
    exact ⟨t, ht, by rw [dropF_skip]; exact hc, by rw [nA_drop, nA_drop]; exact h⟩

/-- A cost without a link: none where the link was, else the same. -/
theorem costF_drop (hr : Right n m a b c) (hj : j < m) (i k : Nat) :
    costF (m - 1) (dropF j a) (dropF j b) (dropF j c) i k = if (i = nA a j ∧ k = nA b j) ∨ (i = nA b j ∧ k = nA a j) then 16 else costF m a b c i k := by
  have hd := right_drop hr hj
  unfold costF
  by_cases h : (i = nA a j ∧ k = nA b j) ∨ (i = nA b j ∧ k = nA a j)
  · rw [if_pos h]
    rcases costV_cases hd i k with ⟨e, -⟩ | ⟨-, e, -⟩ | ⟨-, he⟩
    · obtain ⟨-, -, hne, -⟩ := right_nat hr hj
      omega
    · exact e
    · obtain ⟨i', hi', hne, -, h'⟩ := (edge_drop hj).1 he
      exact absurd (Edge.idx (u := i) (v := k) hr hi' hj h' (by omega)) hne
  · rw [if_neg h]
    rcases costV_cases hr i k with ⟨e, e'⟩ | ⟨hne, e, hno⟩ | ⟨hne, he⟩
    · subst e
      rw [e', costV_same]
    · rw [e]
      rcases costV_cases hd i k with ⟨e', -⟩ | ⟨-, e', -⟩ | ⟨-, he⟩
      · exact absurd e' hne
      · exact e'
      · obtain ⟨i', hi', -, hc', h'⟩ := (edge_drop hj).1 he
        exact absurd ⟨i', hi', hc', h'⟩ (hno _)
    · obtain ⟨i', hi', hc', h'⟩ := he
      refine costV_edge hd ((edge_drop hj).2 ⟨i', hi', fun e => ?_, hc', h'⟩)
      subst e
      exact h (by omega)
end

end Go.Proofs.YtminfghiejgieaaDoor

/- The least of as many powers as there are rows is the star. Plain laws. -/
import Derived.Test.YtdilajieimbdnaaDoorStarMath
import Derived.Test.YtdilajieimbdnaaDoorBellMath
namespace Go.Proofs.YtdilajieimbdnaaDoor
set_option linter.unusedVariables false

def powF (n : Nat) (a : Nat → Nat → Int) : Nat → Nat → Nat → Int
  | 0 => oneF
  | h + 1 => mulF n (powF n a h) a
def outF (n : Nat) (a : Nat → Nat → Int) : Nat → Nat → Nat → Int
  | 0 => oneF
  | h + 1 => fun i k => min (outF n a h i k) (powF n a (h + 1) i k)

section
variable {n : Nat} {a : Nat → Nat → Int}
theorem pow_ranged (ha : Ranged n a) : ∀ h, Ranged n (powF n a h)
  | 0 => fun i k _ _ => by
    show 0 ≤ oneF i k ∧ oneF i k ≤ 16
    unfold oneF
    split <;> omega
  | h + 1 => fun i k hi hk => by
    have ih := pow_ranged ha h
    show 0 ≤ mulF n (powF n a h) a i k ∧ mulF n (powF n a h) a i k ≤ 16
    refine ⟨le_minTo (by omega) fun j hj => ?_, minTo_le16 _ _⟩
    have := ih i j hi hj
    have := ha j k hj hk
    omega
theorem out_ranged (ha : Ranged n a) : ∀ h, Ranged n (outF n a h)
  | 0 => pow_ranged ha 0
  | h + 1 => fun i k hi hk => by
    have h1 := out_ranged ha h i k hi hk
    have h2 := pow_ranged ha (h + 1) i k hi hk
    show 0 ≤ min (outF n a h i k) (powF n a (h + 1) i k) ∧ min (outF n a h i k) (powF n a (h + 1) i k) ≤ 16
    omega

theorem star_le_pow (ha : Ranged n a) : ∀ h i k, i < n → k < n → starF n a i k ≤ powF n a h i k
  | 0, i, k, hi, hk => by
    have h1 := star_one ha hi hk
    show starF n a i k ≤ oneF i k
    omega
  | h + 1, i, k, hi, hk => by
    have hR := star_ranged ha n (Nat.le_refl _) i k hi hk
    have e : starF n a i k = starTo a n i k := rfl
    show starF n a i k ≤ mulF n (powF n a h) a i k
    refine le_minTo (by omega) fun j hj => ?_
    have h1 := star_le_pow ha h i j hi hj
    have h2 := star_table ha j k hj hk n
    have h3 := star_tri ha hi hj hk
    have e2 : starF n a j k = starTo a n j k := rfl
    omega
theorem star_le_out (ha : Ranged n a) : ∀ h i k, i < n → k < n → starF n a i k ≤ outF n a h i k
  | 0, i, k, hi, hk => star_le_pow ha 0 i k hi hk
  | h + 1, i, k, hi, hk => by
    have h1 := star_le_out ha h i k hi hk
    have h2 := star_le_pow ha (h + 1) i k hi hk
    show starF n a i k ≤ min (outF n a h i k) (powF n a (h + 1) i k)
    omega
theorem out_falls (h i k : Nat) : outF n a (h + 1) i k ≤ outF n a h i k := by
  show min (outF n a h i k) (powF n a (h + 1) i k) ≤ _
  omega
theorem out_pow : ∀ h i k, ∃ r, r ≤ h ∧ outF n a h i k = powF n a r i k
  | 0, i, k => ⟨0, Nat.le_refl _, rfl⟩
  | h + 1, i, k => by
    rcases Int.le_total (outF n a h i k) (powF n a (h + 1) i k) with hle | hle
    · obtain ⟨r, hr, e⟩ := out_pow h i k
      exact ⟨r, by omega, by show min (outF n a h i k) (powF n a (h + 1) i k) = _; rw [Int.min_eq_left hle]; exact e⟩
    · exact ⟨h + 1, Nat.le_refl _, Int.min_eq_right hle⟩
theorem out_le_pow : ∀ h r i k, r ≤ h → outF n a h i k ≤ powF n a r i k
  | 0, r, i, k, hr => by
    obtain rfl : r = 0 := by omega
    exact Int.le_refl _
  | h + 1, r, i, k, hr => by
    show min (outF n a h i k) (powF n a (h + 1) i k) ≤ _
    by_cases e : r = h + 1
    · subst e; omega
    · have := out_le_pow h r i k (by omega)
      omega
theorem out_step {h i j k : Nat} (hj : j < n) : outF n a (h + 1) i k ≤ outF n a h i j + a j k := by
  obtain ⟨r, hr, e⟩ := out_pow (n := n) (a := a) h i j
  have h1 := out_le_pow (n := n) (a := a) (h + 1) (r + 1) i k (by omega)
  have h2 : powF n a (r + 1) i k ≤ powF n a r i j + a j k := minTo_le (F := fun j => powF n a r i j + a j k) hj
  omega

/-- On a shortest way to one that is not known yet there is a first such one. -/
theorem way_first_un (ha : Ranged n a) {i t : Nat} (hi : i < n) (x : Nat → Int) (hx : x t ≠ starF n a i t) {u : Nat} {s : Int} (hs : Steps n a u t s) :
    x u = starF n a i u → starF n a i u + s = starF n a i t → ∃ j k, j < n ∧ k < n ∧ x j = starF n a i j ∧ x k ≠ starF n a i k ∧ starF n a i k = starF n a i j + a j k := by
  induction hs with
  | none u hu => exact fun h => absurd h hx
  | more u j k s hu hs ih =>
    intro h1 h2
    have hj := hs.fst
    have hk := hs.snd
    have h3 := star_tri ha hi hu hj
    have h4 := star_table ha u j hu hj n
    have h5 := star_tri ha hi hj hk
    have h6 := star_least ha hs
    have e4 : starF n a u j = starTo a n u j := rfl
    by_cases hk' : x j = starF n a i j
    · exact ih hx hk' (by omega)
    · exact ⟨u, j, hu, hj, h1, hk', by omega⟩

theorem out_count (ha : Ranged n a) {i : Nat} (hi : i < n) : ∀ h : Nat, (∀ k, k < n → outF n a h i k = starF n a i k) ∨ h + 1 ≤ cntB (fun k => decide (outF n a h i k = starF n a i k)) n
  | 0 => .inr (cntB_pos (i := i) hi (by
      have h1 : starF n a i i = 0 := star_diag ha n (Nat.le_refl _) i hi
      have h2 : outF n a 0 i i = 0 := by show oneF i i = 0; unfold oneF; rw [if_pos rfl]
      simp only [decide_eq_true_eq]
      rw [h1, h2]))
  | h + 1 => by
    have keep : ∀ k, k < n → outF n a h i k = starF n a i k → outF n a (h + 1) i k = starF n a i k := fun k hk e => by
      have h1 := out_falls (n := n) (a := a) h i k
      have h2 := star_le_out ha (h + 1) i k hi hk
      omega
    rcases out_count ha hi h with hall | hc
    · exact .inl fun k hk => keep k hk (hall k hk)
    · by_cases hall : ∀ k, k < n → outF n a h i k = starF n a i k
      · exact .inl fun k hk => keep k hk (hall k hk)
      · right
        have hex : ∃ k, k < n ∧ outF n a h i k ≠ starF n a i k := Classical.byContradiction fun hno => hall fun k hk => Classical.byContradiction fun hne => hno ⟨k, hk, hne⟩
        obtain ⟨t, ht, hne⟩ := hex
        have hs := star_steps ha n (Nat.le_refl _) i t hi ht
        have h0 : starF n a i i = 0 := star_diag ha n (Nat.le_refl _) i hi
        have hii : outF n a h i i = starF n a i i := by
          have h1 := out_le_pow (n := n) (a := a) h 0 i i (by omega)
          have h2 := star_le_out ha h i i hi hi
          have h3 : powF n a 0 i i = 0 := by show oneF i i = 0; unfold oneF; rw [if_pos rfl]
          omega
        obtain ⟨j, k, hj, hk, e1, e2, e3⟩ := way_first_un ha hi (outF n a h i) hne hs hii (by rw [h0]; show 0 + starTo a n i t = starTo a n i t; omega)
        refine Nat.lt_of_le_of_lt hc (cntB_lt n (fun q hq hp => ?_) ⟨k, hk, by simpa using e2, ?_⟩)
        · simp only [decide_eq_true_eq] at hp ⊢
          exact keep q hq hp
        · simp only [decide_eq_true_eq]
          have h1 := out_step (n := n) (a := a) (h := h) (i := i) (k := k) hj
          have h2 := star_le_out ha (h + 1) i k hi hk
          omega

theorem out_star (ha : Ranged n a) {i k : Nat} (hi : i < n) (hk : k < n) : outF n a n i k = starF n a i k := by
  rcases out_count ha hi n with h | h
  · exact h k hk
  · have := cntB_le (fun k => decide (outF n a n i k = starF n a i k)) n
    omega
end

end Go.Proofs.YtdilajieimbdnaaDoor

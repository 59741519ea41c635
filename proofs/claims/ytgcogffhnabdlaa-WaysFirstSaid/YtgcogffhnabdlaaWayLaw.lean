/- Ways and the first of the shortest: plain laws. -/
import Derived.Test.YtgcogffhnabdlaaFirst
import Derived.Test.YtgcogffhnabdlaaWayDef
namespace Go.Proofs.Ytgcogffhnabdlaa
open Go.RowKit
set_option linter.unusedVariables false

theorem pick_first {p : Nat → Bool} : ∀ n, 0 < (pickL p n).length → ∃ q : Nat, atL (pickL p n) 0 = q ∧ q < n ∧ p q = true ∧ ∀ x, x < n → p x = true → q ≤ x
  | 0, h => absurd h (by simp [pickL])
  | n + 1, h => by
    by_cases hp : p n = true
    · rw [pickL_yes hp] at h ⊢
      by_cases h0 : 0 < (pickL p n).length
      · obtain ⟨q, h1, h2, h3, h4⟩ := pick_first n h0
        refine ⟨q, ?_, by omega, h3, fun x hx hpx => ?_⟩
        · rw [← h1]
          unfold atL
          rw [List.getD_eq_getElem?_getD, List.getD_eq_getElem?_getD, List.getElem?_append_left h0]
        · by_cases e : x = n
          · omega
          · exact h4 x (by omega) hpx
      · have e0 : pickL p n = [] := List.length_eq_zero_iff.1 (by omega)
        refine ⟨n, ?_, by omega, hp, fun x hx hpx => ?_⟩
        · rw [e0]; rfl
        · by_cases e : x = n
          · omega
          · have : (x : Int) ∈ pickL p n := pickL_mem.2 ⟨by omega, hpx⟩
            rw [e0] at this
            exact absurd this (by simp)
    · have hp' : p n = false := by simpa using hp
      rw [pickL_no hp'] at h ⊢
      obtain ⟨q, h1, h2, h3, h4⟩ := pick_first n h
      refine ⟨q, h1, by omega, h3, fun x hx hpx => ?_⟩
      by_cases e : x = n
      · subst e; exact absurd hpx hp
      · exact h4 x (by omega) hpx

/-- What r steps come to. -/
def lenN (K : Nat → Nat → Int) (g : Nat → Nat) : Nat → Int
  | 0 => 0
  | j + 1 => lenN K g j + K (g j) (g (j + 1))

section
variable {n t : Nat} {K : Nat → Nat → Int} {D : Nat → Int} {g : Nat → Nat}
theorem len_tri (hD : FarD n t K D) : ∀ r, (∀ i, i ≤ r → g i < n) → D (g 0) ≤ lenN K g r + D (g r)
  | 0, _ => by show _ ≤ (0 : Int) + _; omega
  | r + 1, h => by
    have ih := len_tri hD r fun i hi => h i (by omega)
    have h1 := hD.tri (g r) (g (r + 1)) (h r (by omega)) (h (r + 1) (by omega))
    show _ ≤ lenN K g r + K (g r) (g (r + 1)) + _
    omega
/-- No way is shorter. -/
theorem len_least (hD : FarD n t K D) {r : Nat} (h : ∀ i, i ≤ r → g i < n) (he : g r = t) : D (g 0) ≤ lenN K g r := by
  have h1 := len_tri hD r h
  rw [he, hD.zero] at h1
  omega
theorem len_grow (hD : FarD n t K D) (r : Nat) (h : ∀ i, i ≤ r → g i < n) : ∀ d, d ≤ r → lenN K g (r - d) + D (g (r - d)) ≤ lenN K g r + D (g r)
  | 0, _ => Int.le_refl _
  | d + 1, hd => by
    have ih := len_grow hD r h d (by omega)
    obtain ⟨j, hj⟩ : ∃ j, r - d = j + 1 := ⟨r - d - 1, by omega⟩
    have hj2 : r - (d + 1) = j := by omega
    rw [hj] at ih
    rw [hj2]
    have h1 := hD.tri (g j) (g (j + 1)) (h j (by omega)) (h (j + 1) (by omega))
    have h2 : lenN K g (j + 1) = lenN K g j + K (g j) (g (j + 1)) := rfl
    omega
/-- As short as can be: each step leads on. -/
theorem len_tight (hD : FarD n t K D) {r : Nat} (h : ∀ i, i ≤ r → g i < n) (he : g r = t) (hl : lenN K g r = D (g 0)) : ∀ j, j ≤ r → lenN K g j + D (g j) = D (g 0) := by
  intro j hj
  have h1 := len_tri hD j fun i hi => h i (by omega)
  have h2 := len_grow hD r h (r - j) (by omega)
  rw [he, hD.zero, show r - (r - j) = j by omega] at h2
  omega
theorem len_up (hK : CostM n K) (hD : FarD n t K D) {r : Nat} (h : ∀ i, i ≤ r → g i < n) (hs : ∀ i, i < r → K (g i) (g (i + 1)) ≠ 0) (he : g r = t) (hl : lenN K g r = D (g 0)) (h16 : D (g 0) < 16) (h0 : ∀ j, j ≤ r → 0 ≤ lenN K g j) :
    ∀ j, j < r → g j ≠ t ∧ upB t K D (g j) (g (j + 1)) = true := by
  intro j hj
  have e1 := len_tight hD h he hl j (by omega)
  have e2 := len_tight hD h he hl (j + 1) (by omega)
  have e3 : lenN K g (j + 1) = lenN K g j + K (g j) (g (j + 1)) := rfl
  have hn := h j (by omega)
  have hn' := h (j + 1) (by omega)
  have hne : g j ≠ g (j + 1) := fun e => hs j hj (by rw [← e]; exact hK.same _ hn)
  have hpos := hK.low _ _ hn hn' hne
  have hb := hK.back _ _ hn hn'
  have hd0 := hD.low _ hn'
  have hl0 := h0 j (by omega)
  have hnt : g j ≠ t := fun e => by
    have hz := hD.zero
    rw [← e] at hz
    omega
  exact ⟨hnt, decide_eq_true ⟨hnt, fun e => hne e.symm, by omega, by omega⟩⟩
/-- The first way, told by its steps. -/
theorem fst_len (hK : CostM n K) (hD : FarD n t K D) {s : Nat} (hs : s < n) (h16 : D s < 16) {k : Nat} (hk : ∀ j, j < k → fstF n t K D s j ≠ t) :
    ∀ j, j ≤ k → fstF n t K D s j < n ∧ lenN K (fstF n t K D s) j + D (fstF n t K D s j) = D s ∧ 0 ≤ lenN K (fstF n t K D s) j
  | 0, _ => ⟨hs, by show (0 : Int) + D s = D s; omega, Int.le_refl _⟩
  | j + 1, hj => by
    obtain ⟨h1, h2, h3⟩ := fst_len hK hD hs h16 hk j (by omega)
    obtain ⟨h4, h5, h6, h7, h8⟩ := stp_at hK hD h1 (hk j (by omega)) (by omega)
    have e : fstF n t K D s (j + 1) = stpF n t K D (fstF n t K D s j) := rfl
    have hb := hK.back _ _ h1 h6
    have hn := hK.nonneg h1 h6
    have e3 : lenN K (fstF n t K D s) (j + 1) = lenN K (fstF n t K D s) j + K (fstF n t K D s j) (fstF n t K D s (j + 1)) := rfl
    rw [e] at e3
    refine ⟨by rw [e]; exact h6, by rw [e3, e]; omega, by rw [e3]; omega⟩
/-- Of as short ones none stands ahead. -/
theorem fst_least (hK : CostM n K) (hD : FarD n t K D) {s : Nat} (hs : s < n) (h16 : D s < 16) {k : Nat} (hk : ∀ j, j < k → fstF n t K D s j ≠ t) (hkt : fstF n t K D s k = t)
    {r : Nat} (h : ∀ i, i ≤ r → g i < n) (hc : ∀ i, i < r → K (g i) (g (i + 1)) ≠ 0) (h0 : g 0 = s) (he : g r = t) (hl : lenN K g r = D s) (hpos : ∀ j, j ≤ r → 0 ≤ lenN K g j) :
    (∀ i, i ≤ k → i ≤ r → (∀ j, j < i → fstF n t K D s j = g j) → fstF n t K D s i ≤ g i) ∧ ((∀ j, j ≤ k → j ≤ r → fstF n t K D s j = g j) → k ≤ r) := by
  have hup := len_up hK hD h hc he (by rw [h0]; exact hl) (by rw [h0]; exact h16) hpos
  refine ⟨fun i hik hir hj => ?_, fun hall => ?_⟩
  · cases i with
    | zero => show s ≤ g 0; omega
    | succ i =>
      have e := hj i (by omega)
      obtain ⟨h1, h2, h3⟩ := fst_len hK hD hs h16 hk i (by omega)
      have h4 : 0 < (upsL n t K D (fstF n t K D s i)).length := ups_some hK hD h1 (hk i (by omega)) (by omega)
      obtain ⟨q, hq1, hq2, hq3, hq4⟩ := pick_first n h4
      have hu := (hup i (by omega)).2
      rw [← e] at hu
      have hle := hq4 (g (i + 1)) (h (i + 1) (by omega)) hu
      have e2 : fstF n t K D s (i + 1) = q := by
        show (atL (upsL n t K D (fstF n t K D s i)) 0).toNat = q
        have : atL (upsL n t K D (fstF n t K D s i)) 0 = q := hq1
        rw [this]; rfl
      omega
  · by_cases hkr : k ≤ r
    · exact hkr
    · have e := hall r (by omega) (Nat.le_refl _)
      exact absurd (e.trans he) (hk r (by omega))
end

end Go.Proofs.Ytgcogffhnabdlaa

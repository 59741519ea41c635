/- Ways compared: plain laws. -/
import Derived.Test.YtgcogffhnabdlaaWayLaw
namespace Go.Proofs.Ytgcogffhnabdlaa
open Go.RowKit
set_option linter.unusedVariables false

/-- What Compared tells. -/
def CmpT (n m : Nat) (f g : Nat → Int) (r : Int) : Prop :=
  (∃ i, i < n ∧ i < m ∧ (∀ j, j < i → f j = g j) ∧ f i < g i ∧ r = -1) ∨ (∃ i, i < n ∧ i < m ∧ (∀ j, j < i → f j = g j) ∧ g i < f i ∧ r = 1) ∨ ((∀ j, j < n → j < m → f j = g j) ∧ r = (n : Int) - m)

section
variable {n m t : Nat} {a b c : Nat → Int}
theorem wayLen_lenN {f : Nat → Int} {g : Nat → Nat} : ∀ r, (∀ i, i < r + 1 → f i = (g i : Int)) → wayLen m a b c f (r + 1) = lenN (costF m a b c) g r
  | 0, _ => rfl
  | r + 1, h => by
    have ih := wayLen_lenN r fun i hi => h i (by omega)
    show wayLen m a b c f (r + 1) + (if r + 1 = 0 then 0 else costV m a b c (f (r + 1 - 1)) (f (r + 1))) = lenN (costF m a b c) g r + costF m a b c (g r) (g (r + 1))
    rw [ih, if_neg (by omega), Nat.add_sub_cancel, h r (by omega), h (r + 1) (by omega)]
    rfl
/-- The first way is a way, as long as the other node is far. -/
theorem fst_way (hr : Right n m a b c) (ht : t < n) {s : Nat} (hs : s < n) (h16 : endF t a b c m s < 16) {k : Nat}
    (hk : ∀ j, j < k → fstF n t (costF m a b c) (endF t a b c m) s j ≠ t) (hkt : fstF n t (costF m a b c) (endF t a b c m) s k = t) :
    WayOk n m a b c (k + 1) (fun j => fstF n t (costF m a b c) (endF t a b c m) s j) ∧ wayLen m a b c (fun j => fstF n t (costF m a b c) (endF t a b c m) s j) (k + 1) = endF t a b c m s := by
  have hK := cost_m hr
  have hD := far_end hr ht
  have hf := fst_len hK hD hs h16 hk
  refine ⟨⟨by omega, fun i hi => ?_, fun i hi => ?_⟩, ?_⟩
  · have := (hf i (by omega)).1
    exact ⟨by show (0 : Int) ≤ ((fstF n t (costF m a b c) (endF t a b c m) s i : Nat) : Int); omega, by show ((fstF n t (costF m a b c) (endF t a b c m) s i : Nat) : Int) < n; omega⟩
  · obtain ⟨h1, h2, h3⟩ := hf i (by omega)
    obtain ⟨h4, h5, h6, h7, h8⟩ := stp_at hK hD h1 (hk i (by omega)) (by omega)
    have hl := hK.low _ _ h6 h1 h7
    have hd := hD.low _ h6
    have hb := hK.back _ _ h1 h6
    show costF m a b c (fstF n t (costF m a b c) (endF t a b c m) s i) (stpF n t (costF m a b c) (endF t a b c m) (fstF n t (costF m a b c) (endF t a b c m) s i)) ≠ 0 ∧ costF m a b c (fstF n t (costF m a b c) (endF t a b c m) s i) (stpF n t (costF m a b c) (endF t a b c m) (fstF n t (costF m a b c) (endF t a b c m) s i)) ≠ 16
    omega
  · rw [wayLen_lenN (g := fstF n t (costF m a b c) (endF t a b c m) s) k fun i _ => rfl]
    have h := (hf k (Nat.le_refl _)).2.1
    rw [hkt, hD.zero] at h
    omega
/-- No way is shorter; of as short ones none stands ahead. -/
theorem way_end (hr : Right n m a b c) (ht : t < n) {s : Nat} (hs : s < n) (h16 : endF t a b c m s < 16) {k : Nat}
    (hk : ∀ j, j < k → fstF n t (costF m a b c) (endF t a b c m) s j ≠ t) (hkt : fstF n t (costF m a b c) (endF t a b c m) s k = t)
    {r : Nat} {f : Nat → Int} (hw : WayOk n m a b c (r + 1) f) (h0 : f 0 = s) (he : f r = t) :
    endF t a b c m s ≤ wayLen m a b c f (r + 1) ∧ (wayLen m a b c f (r + 1) = endF t a b c m s → ∀ q, CmpT (k + 1) (r + 1) (fun j => fstF n t (costF m a b c) (endF t a b c m) s j) f q → q ≤ 0) := by
  have hK := cost_m hr
  have hD := far_end hr ht
  obtain ⟨g, hg⟩ : ∃ g : Nat → Nat, ∀ i, i < r + 1 → f i = (g i : Int) := ⟨fun i => (f i).toNat, fun i hi => by have := hw.2.1 i hi; show f i = ((f i).toNat : Int); omega⟩
  have hn : ∀ i, i ≤ r → g i < n := fun i hi => by
    have := hw.2.1 i (by omega)
    rw [hg i (by omega)] at this
    omega
  have g0 : g 0 = s := by have := hg 0 (by omega); rw [h0] at this; omega
  have gr : g r = t := by have := hg r (by omega); rw [he] at this; omega
  have hc : ∀ i, i < r → costF m a b c (g i) (g (i + 1)) ≠ 0 := fun i hi => by
    have := (hw.2.2 i (by omega)).1
    rw [hg i (by omega), hg (i + 1) (by omega)] at this
    exact this
  have hpos : ∀ j, j ≤ r → 0 ≤ lenN (costF m a b c) g j := by
    intro j
    induction j with
    | zero => intro _; exact Int.le_refl _
    | succ j ih =>
      intro hj
      have h1 := ih (by omega)
      have h2 := hK.nonneg (hn j (by omega)) (hn (j + 1) hj)
      show 0 ≤ lenN (costF m a b c) g j + costF m a b c (g j) (g (j + 1))
      omega
  have el := wayLen_lenN (m := m) (a := a) (b := b) (c := c) r hg
  have hle := len_least hD hn gr
  rw [g0, ← el] at hle
  refine ⟨hle, fun e q hq => ?_⟩
  rw [el] at e
  obtain ⟨h1, h2⟩ := fst_least hK hD hs h16 hk hkt hn hc g0 gr e hpos
  rcases hq with ⟨i, -, -, -, -, rfl⟩ | ⟨i, hi, hir, hj, hlt, -⟩ | ⟨hj, rfl⟩
  · omega
  · have h3 := h1 i (by omega) (by omega) fun j hji => by
      have h4 := hj j hji
      rw [hg j (by omega)] at h4
      have h5 : ((fstF n t (costF m a b c) (endF t a b c m) s j : Nat) : Int) = (g j : Int) := h4
      omega
    rw [hg i (by omega)] at hlt
    have h5 : (g i : Int) < ((fstF n t (costF m a b c) (endF t a b c m) s i : Nat) : Int) := hlt
    omega
  · have h3 := h2 fun j hjk hjr => by
      have h4 := hj j (by omega) (by omega)
      rw [hg j (by omega)] at h4
      have h5 : ((fstF n t (costF m a b c) (endF t a b c m) s j : Nat) : Int) = (g j : Int) := h4
      omega
    omega
end

end Go.Proofs.Ytgcogffhnabdlaa

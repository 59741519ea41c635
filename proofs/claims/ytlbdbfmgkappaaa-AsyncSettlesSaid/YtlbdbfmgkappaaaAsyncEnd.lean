/- All come to it: what drains and tells do, told for the walk. -/
import Derived.Test.YtlbdbfmgkappaaaAsync
namespace Go.Proofs.Ytlbdbfmgkappaaa
open Go.RowKit
set_option linter.unusedVariables false

/-- The net is there, and its state is one of these. -/
def NetOk (w0 : World) (p0 n t : Nat) (K : Nat → Nat → Int) (D : Nat → Int) (wr : World) (F : AS → Prop) : Prop :=
  ∃ lab A s, A.p = p0 ∧ AN wr lab A n t K s ∧ AInv n t K D s ∧ (∀ b, b < w0.heap.size → lab b = []) ∧ Below w0.heap.size w0 wr ∧ F s

section
variable {w0 w w' : World} {p0 n t : Nat} {K : Nat → Nat → Int} {D : Nat → Int} {F G : AS → Prop}
theorem NetOk.imp (h : NetOk w0 p0 n t K D w F) (hi : ∀ s, AInv n t K D s → F s → G s) : NetOk w0 p0 n t K D w G := by
  obtain ⟨lab, A, s, h1, h2, h3, h4, h5, h6⟩ := h
  exact ⟨lab, A, s, h1, h2, h3, h4, h5, hi s h3 h6⟩
theorem NetOk.bel (h : NetOk w0 p0 n t K D w F) : Below w0.heap.size w0 w := by
  obtain ⟨lab, A, s, h1, h2, h3, h4, h5, h6⟩ := h
  exact h5
theorem NetOk.drewN (h : NetOk w0 p0 n t K D w F) (k : Nat) : NetOk w0 p0 n t K D (w.drewN k) F := by
  obtain ⟨lab, A, s, h1, h2, h3, h4, h5, h6⟩ := h
  exact ⟨lab, A, s, h1, h2.drewN k, h3, h4, below_drewN h5 k, h6⟩
theorem NetOk.below (h : NetOk w0 p0 n t K D w F) (hb : Below w.heap.size w w') : NetOk w0 p0 n t K D w' F := by
  obtain ⟨lab, A, s, h1, h2, h3, h4, h5, h6⟩ := h
  exact ⟨lab, A, s, h1, h2.below hb, h3, h4, keep h5 hb, h6⟩
theorem NetOk.send (h : NetOk w0 p0 n t K D w F) (h8 : n ≤ 8) (a b : Int) (hFG : ∀ s, AInv n t K D s → F s → G (s.send n K a b)) :
    Calls Try.prog 9 #[.pointer (some ⟨p0, 0, none⟩), .int .i64 a, .int .i64 b] w fun e w' => ∃ v, e = .returned v ∧ NetOk w0 p0 n t K D w' G := by
  obtain ⟨lab, A, s, rfl, h2, h3, h4, h5, h6⟩ := h
  refine (netSend a b h2 h3 h8).mono ?_
  rintro e w' ⟨v, he, lab', A', k1, k2, k3, k4⟩
  obtain ⟨k5, k6⟩ := k4.below h5.size h4
  exact ⟨v, he, lab', A', _, k1, k2, k3, k6, h5.trans k5, hFG s h3 h6⟩
theorem NetOk.take (h : NetOk w0 p0 n t K D w F) (h8 : n ≤ 8) (hK : CostM n K) (hR : RoundK n t K D D) (hD : ∀ i, i < n → 0 ≤ D i) (a b : Int) (hFG : ∀ s, AInv n t K D s → F s → (∀ i, i < n → (s.take n t K a b).f i ≤ s.f i) → G (s.take n t K a b)) :
    Calls Try.prog 8 #[.pointer (some ⟨p0, 0, none⟩), .int .i64 a, .int .i64 b] w fun e w' => ∃ v, e = .returned v ∧ NetOk w0 p0 n t K D w' G := by
  obtain ⟨lab, A, s, rfl, h2, h3, h4, h5, h6⟩ := h
  refine (netTake a b h2 h3 h8 hK hR hD).mono ?_
  rintro e w' ⟨v, he, lab', A', k1, k2, k3, k7, k4⟩
  obtain ⟨k5, k6⟩ := k4.below h5.size h4
  exact ⟨v, he, lab', A', _, k1, k2, k3, k6, h5.trans k5, hFG s h3 h6 k7⟩
/-- Where one value alone can be. -/
theorem NetOk.dist (h : NetOk w0 p0 n t K D w F) (h8 : n ≤ 8) (i : Nat) (z : Int) (hz : z = (i : Int)) (hi : i < n) (v : Int) (hv : ∀ s, AInv n t K D s → F s → s.f i = v) :
    Calls Try.prog 11 #[.pointer (some ⟨p0, 0, none⟩), .int .i64 z] w fun e w' => e = .returned (.tuple #[.int .i64 v, .nilIface]) ∧ w' = w := by
  obtain ⟨lab, A, s, rfl, h2, h3, h4, h5, h6⟩ := h
  have := netDist i z hz hi h2 h8
  rw [hv s h3 h6] at this
  exact this
end

/-- Before a pair, row by row. -/
def Ahd (a b x y : Nat) : Prop := x < a ∨ (x = a ∧ y < b)
/-- Two neighbours. -/
def Nbr (n : Nat) (K : Nat → Nat → Int) (x y : Nat) : Prop := x < n ∧ y < n ∧ x ≠ y ∧ K x y ≠ 16

/-- In the middle of a drain. -/
def PhiD (n : Nat) (K : Nat → Nat → Int) (X : Nat → Int) (r a b : Nat) (s : AS) : Prop :=
  (∀ i, i < n → s.f i ≤ X i) ∧ (1 ≤ r → ∀ x y, Nbr n K x y → s.newest x y ≤ X x) ∧ ∀ x y, Ahd a b x y → Nbr n K x y → s.q x y = []
def PhiE (n : Nat) (K : Nat → Nat → Int) (X : Nat → Int) (r a b k : Nat) (s : AS) : Prop := PhiD n K X r a b s ∧ (Nbr n K a b → (s.q a b).length ≤ 20 - k)
/-- In the middle of telling all. -/
def PhiS (n : Nat) (K : Nat → Nat → Int) (Y : Nat → Int) (a b : Nat) (s : AS) : Prop :=
  (∀ i, i < n → s.f i ≤ Y i) ∧ (∀ x y, Ahd a b x y → Nbr n K x y → s.newest x y ≤ Y x) ∧ ∀ x y, ¬ Ahd a b x y → Nbr n K x y → s.q x y = []
/-- At a round's head. -/
def PhiR (n : Nat) (K : Nat → Nat → Int) (X : Nat → Nat → Int) (r : Nat) (s : AS) : Prop :=
  (∀ i, i < n → s.f i ≤ X (r - 1) i) ∧ (1 ≤ r → ∀ x y, Nbr n K x y → s.newest x y ≤ X (r - 1) x)

section
variable {n t r a b k : Nat} {K : Nat → Nat → Int} {D X Y : Nat → Int} {Z : Nat → Nat → Int} {s : AS}
theorem PhiD.first (hI : AInv n t K D s) (h : PhiD n K X r a b s) : PhiE n K X r a b 0 s := ⟨h, fun hn => hI.few a b hn.1 hn.2.1⟩
theorem PhiE.take (hI : AInv n t K D s) (h : PhiE n K X r a b k s) (hf : ∀ i, i < n → (s.take n t K a b).f i ≤ s.f i) : PhiE n K X r a b (k + 1) (s.take n t K a b) := by
  obtain ⟨⟨h1, h2, h3⟩, h4⟩ := h
  refine ⟨⟨fun i hi => Int.le_trans (hf i hi) (h1 i hi), fun hr x y hn => by rw [newest_take]; exact h2 hr x y hn, fun x y hp hn => ?_⟩, fun hn => ?_⟩
  · rw [take_q (a := a) (b := b) x y s (by unfold Ahd at hp; omega)]
    exact h3 x y hp hn
  · rw [take_tail hn.1 hn.2.1 hn.2.2.1 hn.2.2.2]
    have := h4 hn
    omega
theorem PhiE.next (h : PhiE n K X r a b 20 s) : PhiD n K X r a (b + 1) s := by
  obtain ⟨⟨h1, h2, h3⟩, h4⟩ := h
  refine ⟨h1, h2, fun x y hp hn => ?_⟩
  by_cases e : x = a ∧ y = b
  · obtain ⟨rfl, rfl⟩ := e
    exact List.eq_nil_of_length_eq_zero (by have := h4 hn; omega)
  · exact h3 x y (by unfold Ahd at hp ⊢; omega) hn
theorem PhiD.row (h : PhiD n K X r a n s) : PhiD n K X r (a + 1) 0 s := by
  obtain ⟨h1, h2, h3⟩ := h
  refine ⟨h1, h2, fun x y hp hn => h3 x y ?_ hn⟩
  have := hn.2.1
  unfold Ahd at hp ⊢
  omega
theorem PhiR.drain (h : PhiR n K Z r s) : PhiD n K (Z (r - 1)) r 0 0 s := ⟨h.1, h.2, fun x y hp => by unfold Ahd at hp; omega⟩
theorem PhiD.all (hI : AInv n t K D s) (hK : CostM n K) (h : PhiD n K (Z (r - 1)) r n 0 s) (hZ : ∀ r, RoundK n t K (Z r) (Z (r + 1))) (h0 : ∀ r i, i < n → 0 ≤ Z r i) : PhiS n K (Z r) 0 0 s := by
  obtain ⟨h1, h2, h3⟩ := h
  have hq : ∀ x y, Nbr n K x y → s.q x y = [] := fun x y hn => h3 x y (.inl hn.1) hn
  refine ⟨?_, fun x y hp => by unfold Ahd at hp; omega, fun x y _ hn => hq x y hn⟩
  cases r with
  | zero => exact h1
  | succ r => exact hI.drained (X := Z r) (fun a b ha hb hne hk => ⟨hq a b ⟨ha, hb, hne, hk⟩, h2 (by omega) a b ⟨ha, hb, hne, hk⟩⟩) (fun i hi => h0 r i hi) hK (hZ r)
theorem PhiS.send (hI : AInv n t K D s) (ha : a < n) (hb : b < n) (h : PhiS n K Y a b s) : PhiS n K Y a (b + 1) (s.send n K a b) := by
  obtain ⟨h1, h2, h3⟩ := h
  refine ⟨fun i hi => by rw [send_f]; exact h1 i hi, fun x y hp hn => ?_, fun x y hp hn => ?_⟩
  · by_cases e : x = a ∧ y = b
    · obtain ⟨rfl, rfl⟩ := e
      have := h3 x y (by unfold Ahd; omega) hn
      rw [send_newest ha hb hn.2.2.1 hn.2.2.2 (by rw [this]; simp)]
      exact h1 x ha
    · exact Int.le_trans (newest_send hI a b hn.1 hn.2.1) (h2 x y (by unfold Ahd at hp ⊢; omega) hn)
  · rw [send_q (a := a) (b := b) x y s n K (by unfold Ahd at hp; omega)]
    exact h3 x y (by unfold Ahd at hp ⊢; omega) hn
theorem PhiS.row (h : PhiS n K Y a n s) : PhiS n K Y (a + 1) 0 s := by
  obtain ⟨h1, h2, h3⟩ := h
  refine ⟨h1, fun x y hp hn => h2 x y ?_ hn, fun x y hp hn => h3 x y ?_ hn⟩
  · have := hn.2.1
    unfold Ahd at hp ⊢
    omega
  · unfold Ahd at hp ⊢
    omega
theorem PhiS.all (h : PhiS n K (Z r) n 0 s) : PhiR n K Z (r + 1) s := ⟨h.1, fun _ x y hn => h.2.1 x y (.inl hn.1) hn⟩
theorem PhiR.start (hI : AInv n t K D s) (h0 : ∀ i, i < n → Z 0 i = startF t i) : PhiR n K Z 0 s := ⟨fun i hi => by
  show s.f i ≤ Z 0 i
  rw [h0 i hi]
  unfold startF
  by_cases e : i = t
  · rw [if_pos e, e, hI.self]; exact Int.le_refl _
  · rw [if_neg e]; exact hI.f16 hi, fun h => absurd h (by omega)⟩
end

end Go.Proofs.Ytlbdbfmgkappaaa

/- Where no cost changes a net that has never round thinks what a net thinks that tells one by one: plain laws. -/
import Derived.Test.YtlemmphnmklbeaaLfiLaw
import Derived.Test.YtlemmphnmklbeaaLab
namespace Go.Proofs.Ytlemmphnmklbeaa
open Go.RowKit
set_option linter.unusedVariables false

/-- Both nets are alike; the least is what is thought. -/
structure SimL (K : Nat → Nat → Int) (s : LS) (a : AS) : Prop where
  K : s.K = K
  f : s.f = a.f
  e : s.e = a.f
  h : s.h = a.h
  q : s.q = a.q

theorem SimL.new (t : Nat) (K : Nat → Nat → Int) : SimL K (LS.new t K) (AS.new t) := ⟨rfl, rfl, rfl, rfl, rfl⟩

theorem least_hear {n t b : Nat} {K : Nat → Nat → Int} {h : Nat → Int} {E : Int} (hK : CostM n K) (hb : b < n) (hbt : b ≠ t) (hE : hearF K h b n ≤ E) (p : Nat → Bool) (hp : ∀ k, p k = decide (b ≠ t ∧ nearE n K b k = 0 ∧ h k < E)) :
    leastL (K b) h (pickL p n) (pickL p n).length = hearF K h b n := by
  apply Int.le_antisymm
  · rcases hear_is (K := K) (h := h) b n with e | ⟨k, hk, h1, h2, h3⟩
    · rw [e]; exact least_le _
    · have hk1 := hK.low b k hb hk (Ne.symm h1)
      have hpk : p k = true := by
        rw [hp]
        exact decide_eq_true ⟨hbt, near_nat hb hk (Ne.symm h1) (by omega), by omega⟩
      obtain ⟨j, hj, e⟩ := atL_mem.2 (pickL_mem.2 ⟨hk, hpk⟩)
      have := least_low (K := K b) (h := h) (l := pickL p n) (k := j) _ hj
      rw [e, show ((k : Int)).toNat = k by omega] at this
      omega
  · rcases least_is (K := K b) (h := h) (l := pickL p n) (pickL p n).length with e | ⟨j, hj, e⟩
    · rw [e]; exact hear_le b n
    · obtain ⟨v, hv, hvn, hpv⟩ := pick_at hj
      rw [e, hv, show ((v : Int)).toNat = v by omega]
      rw [hp] at hpv
      obtain ⟨-, hnear, -⟩ := of_decide_eq_true hpv
      obtain ⟨x, y, e1, e2, -, -, hne, h16⟩ := near_zero hnear
      obtain rfl : b = x := by omega
      obtain rfl : v = y := by omega
      have := hK.high b v hb hvn
      exact hear_low (Ne.symm hne) (by omega) n hvn

section
variable {n t : Nat} {K : Nat → Nat → Int} {D : Nat → Int} {s : LS} {a : AS}
theorem SimL.send (h : SimL K s a) (x y : Int) : SimL K (s.send n x y) (a.send n K x y) := by
  have e : s.sendE n x y = a.sendE n K x y := by
    unfold LS.sendE AS.sendE
    rw [h.K, h.q]
  unfold LS.send AS.send
  rw [e]
  split
  · refine ⟨h.K, h.f, h.e, h.h, ?_⟩
    show (fun p q => if p = x.toNat ∧ q = y.toNat then s.q x.toNat y.toNat ++ [s.f x.toNat] else s.q p q) = fun p q => if p = x.toNat ∧ q = y.toNat then a.q x.toNat y.toNat ++ [a.f x.toNat] else a.q p q
    rw [h.q, h.f]
  · exact h

theorem SimL.take (hI : AInv n t K D a) (hK : CostM n K) (h : SimL K s a) (x y : Int) : SimL K (s.take n t x y) (a.take n t K x y) := by
  have e : s.takeE n x y = a.takeE n K x y := by
    unfold LS.takeE AS.takeE
    rw [h.K, h.q]
  unfold LS.take AS.take
  rw [e]
  split
  · rename_i h0
    obtain ⟨h1, h2⟩ := take_zero h0
    obtain ⟨x, y, rfl, rfl, hx, hy, hne, hk⟩ := near_zero h1
    have e1 : ((x : Int)).toNat = x := by omega
    have e2 : ((y : Int)).toNat = y := by omega
    rw [e1, e2] at h2 ⊢
    have hfirst : s.first x y = a.first x y := by
      unfold LS.first AS.first
      rw [h.q]
    have hch : (s.come x y).h = (a.come x y).h := by
      show (fun p q => if p = y ∧ q = x then s.first x y else s.h p q) = fun p q => if p = y ∧ q = x then a.first x y else a.h p q
      rw [hfirst, h.h]
    have hcq : (s.come x y).q = (a.come x y).q := by
      show (fun p q => if p = x ∧ q = y then (s.q x y).tail else s.q p q) = fun p q => if p = x ∧ q = y then (a.q x y).tail else a.q p q
      rw [h.q]
    by_cases hyt : y = t
    · subst hyt
      rw [anew_self]
      refine ⟨h.K, ?_, ?_, hch, hcq⟩
      · show s.f = fun i => if i = y ∧ y ≠ y then _ else a.f i
        funext i
        rw [if_neg (fun h => h.2 rfl), h.f]
      · show s.e = fun i => if i = y ∧ y ≠ y then _ else a.f i
        funext i
        rw [if_neg (fun h => h.2 rfl), h.e]
    · obtain ⟨d, l, hq⟩ : ∃ d l, a.q x y = d :: l := by
        cases hq : a.q x y with
        | nil => rw [hq] at h2; simp at h2
        | cons d l => exact ⟨d, l, rfl⟩
      have hd := hI.way hx hy (x := d) (by rw [hq]; simp)
      have hle : hearF K ((a.come x y).h y) y n ≤ a.f y := by
        rw [hI.think y hy hyt]
        refine hear_mono y n fun k hk => ?_
        show (if y = y ∧ k = x then a.first x y else a.h y k) ≤ a.h y k
        split
        · rename_i e
          obtain ⟨-, rfl⟩ := e
          unfold AS.first
          rw [hq]
          exact hd.2
        · exact Int.le_refl _
      have hnew : (s.come x y).newF n t y = hearF K ((a.come x y).h y) y n := by
        unfold LS.newF LS.nexts
        have hKK : (s.come x y).K = K := h.K
        rw [hKK, hch]
        refine least_hear (E := a.f y) (t := t) hK hy hyt hle _ fun k => ?_
        unfold LS.isN
        rw [hKK, hch, show (s.come x y).e = a.f from h.e]
      have hfy : s.f y = a.f y := by rw [h.f]
      have hey : s.e y = a.f y := by rw [h.e]
      refine ⟨by rw [anew_K]; exact h.K, ?_, ?_, by rw [anew_h]; exact hch, by rw [anew_q]; exact hcq⟩
      · funext i
        show _ = if i = y ∧ y ≠ t then hearF K ((a.come x y).h y) y n else a.f i
        by_cases hi : i = y
        · subst hi
          rw [(anew_at _ hyt).1, if_pos ⟨rfl, hyt⟩, hnew]
        · rw [(anew_other _ hi).1, if_neg (fun h => hi h.1)]
          show s.f i = a.f i
          rw [h.f]
      · funext i
        show _ = if i = y ∧ y ≠ t then hearF K ((a.come x y).h y) y n else a.f i
        by_cases hi : i = y
        · subst hi
          rw [(anew_at _ hyt).2, if_pos ⟨rfl, hyt⟩, hnew]
          show min (s.e i) _ = _
          rw [hey]
          omega
        · rw [(anew_other _ hi).2, if_neg (fun h => hi h.1)]
          show s.e i = a.f i
          rw [h.e]
  · exact h

/-- Each has a next one that is near; the node itself has none. -/
theorem SimL.has_next (hI : AInv n t K D a) (hK : CostM n K) (hD : ∀ i, i < n → 0 ≤ D i) (h : SimL K s a) {i : Nat} (hi : i < n) (hit : i ≠ t) (h16 : a.f i < 16) : 0 < (s.nexts n t i).length := by
  rw [hI.think i hi hit] at h16
  rcases hear_is (K := K) (h := a.h i) i n with e | ⟨k, hk, h1, h2, h3⟩
  · omega
  · have hk1 := hK.low i k hi hk (Ne.symm h1)
    have hmem : ((k : Nat) : Int) ∈ s.nexts n t i := by
      unfold LS.nexts
      refine pickL_mem.2 ⟨hk, ?_⟩
      unfold LS.isN
      rw [h.K, h.h, h.e]
      refine decide_eq_true ⟨hit, near_nat hi hk (Ne.symm h1) (by omega), ?_⟩
      rw [hI.think i hi hit]
      omega
    exact List.length_pos_of_mem hmem
theorem nexts_self (s : LS) (n t : Nat) : s.nexts n t t = [] := by
  unfold LS.nexts pickL
  rw [List.filter_eq_nil_iff.2 (fun k _ => by unfold LS.isN; simp)]
  rfl
end

/-- Before a pair, row by row. -/
def Ahl (a b x y : Nat) : Prop := x < a ∨ (x = a ∧ y < b)
/-- Two neighbours. -/
def Nbl (n : Nat) (K : Nat → Nat → Int) (x y : Nat) : Prop := x < n ∧ y < n ∧ x ≠ y ∧ K x y ≠ 16

/-- At a round's head. -/
def RoR (n : Nat) (K : Nat → Nat → Int) (X : Nat → Int) (s : AS) : Prop := (∀ i, i < n → s.f i ≤ X i) ∧ ∀ x y, Nbl n K x y → s.q x y = []
/-- In the middle of telling all. -/
def RoS (n : Nat) (K : Nat → Nat → Int) (X : Nat → Int) (a b : Nat) (s : AS) : Prop :=
  (∀ i, i < n → s.f i ≤ X i) ∧ (∀ x y, Ahl a b x y → Nbl n K x y → s.newest x y ≤ X x ∧ (s.q x y).length ≤ 1) ∧ ∀ x y, ¬ Ahl a b x y → Nbl n K x y → s.q x y = []
/-- In the middle of hearing all. -/
def RoT (n : Nat) (K : Nat → Nat → Int) (X : Nat → Int) (a b : Nat) (s : AS) : Prop :=
  (∀ i, i < n → s.f i ≤ X i) ∧ (∀ x y, Nbl n K x y → s.newest x y ≤ X x ∧ (s.q x y).length ≤ 1) ∧ ∀ x y, Ahl a b x y → Nbl n K x y → s.q x y = []

section
variable {n t a b : Nat} {K : Nat → Nat → Int} {D X Y : Nat → Int} {s : AS}
theorem RoR.start (hI : AInv n t K D s) (hX : ∀ i, i < n → X i = startF t i) (hq : ∀ x y, s.q x y = []) : RoR n K X s := ⟨fun i hi => by
  rw [hX i hi]
  unfold startF
  by_cases e : i = t
  · rw [if_pos e, e, hI.self]; exact Int.le_refl _
  · rw [if_neg e]; exact hI.f16 hi, fun x y _ => hq x y⟩
theorem RoR.all (h : RoR n K X s) : RoS n K X 0 0 s := ⟨h.1, fun x y hp => by unfold Ahl at hp; omega, fun x y _ hn => h.2 x y hn⟩
theorem RoS.send (hI : AInv n t K D s) (ha : a < n) (hb : b < n) (h : RoS n K X a b s) : RoS n K X a (b + 1) (s.send n K a b) := by
  obtain ⟨h1, h2, h3⟩ := h
  refine ⟨fun i hi => by rw [send_f]; exact h1 i hi, fun x y hp hn => ?_, fun x y hp hn => ?_⟩
  · by_cases e : x = a ∧ y = b
    · obtain ⟨rfl, rfl⟩ := e
      have := h3 x y (by unfold Ahl; omega) hn
      have hlen := send_len s n K x y
      rw [this] at hlen
      refine ⟨?_, by simpa using hlen⟩
      rw [send_newest ha hb hn.2.2.1 hn.2.2.2 (by rw [this]; simp)]
      exact h1 x ha
    · obtain ⟨g1, g2⟩ := h2 x y (by unfold Ahl at hp ⊢; omega) hn
      exact ⟨Int.le_trans (newest_send hI a b hn.1 hn.2.1) g1, by rw [send_q (a := a) (b := b) x y s n K e]; exact g2⟩
  · rw [send_q (a := a) (b := b) x y s n K (by unfold Ahl at hp; omega)]
    exact h3 x y (by unfold Ahl at hp ⊢; omega) hn
theorem RoS.row (h : RoS n K X a n s) : RoS n K X (a + 1) 0 s := by
  obtain ⟨h1, h2, h3⟩ := h
  refine ⟨h1, fun x y hp hn => h2 x y ?_ hn, fun x y hp hn => h3 x y ?_ hn⟩
  · have := hn.2.1
    unfold Ahl at hp ⊢
    omega
  · unfold Ahl at hp ⊢
    omega
theorem RoS.all (h : RoS n K X n 0 s) : RoT n K X 0 0 s := ⟨h.1, fun x y hn => h.2.1 x y (.inl hn.1) hn, fun x y hp => by unfold Ahl at hp; omega⟩
theorem RoT.take (hI : AInv n t K D s) (hK : CostM n K) (hR : RoundK n t K D D) (ha : a < n) (hb : b < n) (h : RoT n K X a b s) : RoT n K X a (b + 1) (s.take n t K a b) := by
  obtain ⟨h1, h2, h3⟩ := h
  have hf := (hI.take hK hR a b).2
  refine ⟨fun i hi => Int.le_trans (hf i hi) (h1 i hi), fun x y hn => ?_, fun x y hp hn => ?_⟩
  · obtain ⟨g1, g2⟩ := h2 x y hn
    refine ⟨by rw [newest_take]; exact g1, ?_⟩
    by_cases e : x = a ∧ y = b
    · obtain ⟨rfl, rfl⟩ := e
      rw [take_tail ha hb hn.2.2.1 hn.2.2.2]
      omega
    · rw [take_q (a := a) (b := b) x y s e]; exact g2
  · by_cases e : x = a ∧ y = b
    · obtain ⟨rfl, rfl⟩ := e
      have := take_tail (t := t) ha hb hn.2.2.1 hn.2.2.2 s
      have g2 := (h2 x y hn).2
      exact List.eq_nil_of_length_eq_zero (by omega)
    · rw [take_q (a := a) (b := b) x y s e]
      exact h3 x y (by unfold Ahl at hp ⊢; omega) hn
theorem RoT.row (h : RoT n K X a n s) : RoT n K X (a + 1) 0 s := by
  obtain ⟨h1, h2, h3⟩ := h
  refine ⟨h1, h2, fun x y hp hn => h3 x y ?_ hn⟩
  have := hn.2.1
  unfold Ahl at hp ⊢
  omega
theorem RoT.all (hI : AInv n t K D s) (hK : CostM n K) (h : RoT n K X n 0 s) (hX : ∀ i, i < n → 0 ≤ X i) (hR : RoundK n t K X Y) : RoR n K Y s := by
  obtain ⟨h1, h2, h3⟩ := h
  have hq : ∀ x y, Nbl n K x y → s.q x y = [] := fun x y hn => h3 x y (.inl hn.1) hn
  exact ⟨hI.drained (X := X) (fun a b ha hb hne hk => ⟨hq a b ⟨ha, hb, hne, hk⟩, (h2 a b ⟨ha, hb, hne, hk⟩).1⟩) hX hK hR, hq⟩
end

end Go.Proofs.Ytlemmphnmklbeaa

/- The nearest first, in plain numbers: whatever the order in which places are taken. -/
import Derived.Test.YtminfghiejgieaaDoorDistMath
namespace Go.Proofs.YtminfghiejgieaaDoor
set_option linter.unusedVariables false

/-- All that n numbers come to. -/
def sumN (f : Nat → Int) : Nat → Nat
  | 0 => 0
  | n + 1 => sumN f n + (f n).toNat

theorem sumN_upd_ge (f : Nat → Int) (k : Nat) (x : Int) : ∀ n, n ≤ k → sumN (upd f k x) n = sumN f n
  | 0, _ => rfl
  | n + 1, h => by
    show sumN (upd f k x) n + (upd f k x n).toNat = _
    rw [sumN_upd_ge f k x n (by omega), upd_other _ _ (by omega)]
    rfl

theorem sumN_upd (f : Nat → Int) (k : Nat) (x : Int) (h0 : 0 ≤ x) (h1 : x < f k) : ∀ n, k < n → sumN (upd f k x) n + 1 ≤ sumN f n
  | 0, h => absurd h (by omega)
  | n + 1, h => by
    show sumN (upd f k x) n + (upd f k x n).toNat + 1 ≤ sumN f n + (f n).toNat
    by_cases e : k = n
    · subst e
      rw [sumN_upd_ge f k x k (Nat.le_refl _), upd_same]
      omega
    · have := sumN_upd f k x h0 h1 n (by omega)
      rw [upd_other _ _ (fun e' => e e'.symm)]
      omega

theorem sumN_le (f : Nat → Int) (c : Nat) : ∀ n, (∀ i, i < n → f i ≤ c) → sumN f n ≤ c * n
  | 0, _ => Nat.zero_le _
  | n + 1, h => by
    have ih := sumN_le f c n fun i hi => h i (by omega)
    have := h n (by omega)
    show sumN f n + (f n).toNat ≤ c * (n + 1)
    rw [Nat.mul_succ]
    omega

/-- What is known of a place x: its ways are looked at. -/
def Looked (n : Nat) (K : Nat → Nat → Int) (far : Nat → Int) (x : Nat) : Prop := ∀ k, k < n → far k ≤ far x + K x k

/-- Between two rounds. -/
structure SpfJ (n t : Nat) (K : Nat → Nat → Int) (D far : Nat → Int) (q : List (Int × Nat)) : Prop where
  zero : far t = 0
  low : ∀ i, i < n → 0 ≤ far i
  high : ∀ i, i < n → far i ≤ 16
  above : ∀ i, i < n → D i ≤ far i
  que : ∀ e, e ∈ q → e.2 < n ∧ far e.2 ≤ e.1 ∧ e.1 ≤ 15
  done : ∀ x, x < n → far x < 16 → (far x, x) ∈ q ∨ Looked n K far x
  size : 2 * sumN far n + q.length ≤ 257

/-- Inside a round: place x was taken, its ways up to k are looked at. -/
structure SpfI (n t : Nat) (K : Nat → Nat → Int) (D : Nat → Int) (x k : Nat) (d : Int) (far : Nat → Int) (q : List (Int × Nat)) (M : Nat) : Prop where
  zero : far t = 0
  low : ∀ i, i < n → 0 ≤ far i
  high : ∀ i, i < n → far i ≤ 16
  above : ∀ i, i < n → D i ≤ far i
  que : ∀ e, e ∈ q → e.2 < n ∧ far e.2 ≤ e.1 ∧ e.1 ≤ 15
  done : ∀ y, y < n → y ≠ x → far y < 16 → (far y, y) ∈ q ∨ Looked n K far y
  here : far x = d
  upto : ∀ i, i < k → far i ≤ d + K x i
  size : 2 * sumN far n + q.length ≤ M
  top : M ≤ 256

/-- q' is q without e, as far as can be told by who is there. -/
structure QRem (q : List (Int × Nat)) (e : Int × Nat) (q' : List (Int × Nat)) : Prop where
  it : e ∈ q
  sub : ∀ x, x ∈ q' → x ∈ q
  or : ∀ x, x ∈ q → x = e ∨ x ∈ q'
  len : q.length = q'.length + 1

section
variable {n t : Nat} {K : Nat → Nat → Int} {D far : Nat → Int} {q q' : List (Int × Nat)} {x k M : Nat} {d : Int}
theorem spf_start (hK : CostM n K) (hD : FarD n t K D) (ht : t < n) (h8 : n ≤ 8) : SpfJ n t K D (startF t) [(0, t)] where
  zero := by unfold startF; rw [if_pos rfl]
  low i hi := (startF_ranged t n i hi).1
  high i hi := (startF_ranged t n i hi).2
  above i hi := by
    unfold startF
    by_cases e : i = t
    · subst e; rw [if_pos rfl, hD.zero]; exact Int.le_refl _
    · rw [if_neg e]; exact hD.high i hi
  que e he := by
    obtain rfl := List.mem_singleton.1 he
    refine ⟨ht, ?_, by show (0 : Int) ≤ 15; omega⟩
    show startF t t ≤ 0
    unfold startF; rw [if_pos rfl]; exact Int.le_refl _
  done y hy hlt := by
    by_cases e : y = t
    · subst e
      refine .inl ?_
      have : startF y y = 0 := by unfold startF; rw [if_pos rfl]
      rw [this]
      exact List.mem_singleton.2 rfl
    · unfold startF at hlt
      rw [if_neg e] at hlt
      omega
  size := by
    have := sumN_le (startF t) 16 n fun i hi => (startF_ranged t n i hi).2
    simp
    omega

/-- A place taken that is too far by now. -/
theorem SpfJ.skip (h : SpfJ n t K D far q) (hp : QRem q (d, x) q') (hd : far x < d) : SpfJ n t K D far q' where
  zero := h.zero
  low := h.low
  high := h.high
  above := h.above
  que e he := h.que e (hp.sub e he)
  done y hy hlt := by
    rcases h.done y hy hlt with hm | hl
    · rcases hp.or _ hm with e | hm'
      · have e1 : far y = d := congrArg Prod.fst e
        have e2 : y = x := congrArg Prod.snd e
        subst e2
        omega
      · exact .inl hm'
    · exact .inr hl
  size := by
    have := h.size
    have e := hp.len
    omega

theorem SpfJ.take (h : SpfJ n t K D far q) (hp : QRem q (d, x) q') (hd : ¬ far x < d) : SpfI n t K D x 0 d far q' (2 * sumN far n + q'.length) where
  zero := h.zero
  low := h.low
  high := h.high
  above := h.above
  que e he := h.que e (hp.sub e he)
  done y hy hne hlt := by
    rcases h.done y hy hlt with hm | hl
    · rcases hp.or _ hm with e | hm'
      · have e2 : y = x := congrArg Prod.snd e
        exact absurd e2 hne
      · exact .inl hm'
    · exact .inr hl
  here := by
    have := (h.que (d, x) hp.it).2.1
    have h2 : far x ≤ d := this
    omega
  upto i hi := absurd hi (by omega)
  size := Nat.le_refl _
  top := by
    have := h.size
    have e := hp.len
    omega

theorem SpfI.on (h : SpfI n t K D x k d far q M) (hk : far k ≤ d + K x k) : SpfI n t K D x (k + 1) d far q M where
  zero := h.zero
  low := h.low
  high := h.high
  above := h.above
  que := h.que
  done := h.done
  here := h.here
  upto i hi := by
    rcases Nat.lt_or_ge i k with hlt | hge
    · exact h.upto i hlt
    · obtain rfl : i = k := by omega
      exact hk
  size := h.size
  top := h.top

theorem SpfI.put (hK : CostM n K) (hD : FarD n t K D) (ht : t < n) (hx : x < n) (h : SpfI n t K D x k d far q M) (hk : k < n) (hlt : K x k + d < far k) (hp : QRem q' (K x k + d, k) q) : SpfI n t K D x (k + 1) d (upd far k (K x k + d)) q' M := by
  have hkx : k ≠ x := by
    intro e
    subst e
    have := hK.same k hk
    have := h.here
    omega
  have hd0 : 0 ≤ d := by rw [← h.here]; exact h.low x hx
  have hkk := hK.nonneg hx hk
  have hkt : k ≠ t := by
    intro e
    subst e
    have := h.zero
    omega
  have hle : ∀ i, upd far k (K x k + d) i ≤ far i := fun i => by
    by_cases e : i = k
    · subst e; rw [upd_same]; omega
    · rw [upd_other _ _ e]; exact Int.le_refl _
  exact {
    zero := by rw [upd_other _ _ fun e => hkt e.symm]; exact h.zero
    low := fun i hi => by
      by_cases e : i = k
      · subst e; rw [upd_same]; omega
      · rw [upd_other _ _ e]; exact h.low i hi
    high := fun i hi => Int.le_trans (hle i) (h.high i hi)
    above := fun i hi => by
      by_cases e : i = k
      · subst e
        rw [upd_same]
        have h1 := hD.tri i x hi hx
        have h2 := hK.back i x hi hx
        have h3 := h.above x hx
        have h4 := h.here
        omega
      · rw [upd_other _ _ e]; exact h.above i hi
    que := fun e he => by
      rcases hp.or _ he with rfl | hm
      · refine ⟨hk, ?_, ?_⟩
        · show upd far k (K x k + d) k ≤ K x k + d
          rw [upd_same]; exact Int.le_refl _
        · have := h.high k hk
          show K x k + d ≤ 15
          omega
      · obtain ⟨h1, h2, h3⟩ := h.que e hm
        exact ⟨h1, Int.le_trans (hle _) h2, h3⟩
    done := fun y hy hne hlt' => by
      by_cases e : y = k
      · subst e
        rw [upd_same]
        exact .inl hp.it
      · rw [upd_other _ _ e] at hlt' ⊢
        rcases h.done y hy hne hlt' with hm | hl
        · exact .inl (hp.sub _ hm)
        · refine .inr fun i hi => ?_
          rw [upd_other _ _ e]
          exact Int.le_trans (hle i) (hl i hi)
    here := by rw [upd_other _ _ fun e => hkx e.symm]; exact h.here
    upto := fun i hi => by
      by_cases e : i = k
      · subst e; rw [upd_same]; omega
      · exact Int.le_trans (hle i) (h.upto i (by omega))
    size := by
      have h1 := sumN_upd far k (K x k + d) (by omega) hlt n hk
      have h2 := h.size
      have e := hp.len
      omega
    top := h.top }

theorem SpfI.end_ (h : SpfI n t K D x n d far q M) : SpfJ n t K D far q where
  zero := h.zero
  low := h.low
  high := h.high
  above := h.above
  que := h.que
  done y hy hlt := by
    by_cases e : y = x
    · subst e
      refine .inr fun k hk => ?_
      rw [h.here]
      exact h.upto k hk
    · exact h.done y hy e hlt
  size := by
    have := h.size
    have := h.top
    omega

/-- In the end each is known to be as far as it is. -/
theorem SpfJ.last (hK : CostM n K) (hD : FarD n t K D) (h : SpfJ n t K D far []) : ∀ i, i < n → far i = D i := by
  intro i hi
  refine Int.le_antisymm (hD.most hK (Int.le_of_eq h.zero) h.high (fun i k hi hk _ _ => ?_) i hi) (h.above i hi)
  by_cases h16 : far k < 16
  · rcases h.done k hk h16 with hm | hl
    · cases hm
    · have := hl i hi
      have := hK.back i k hi hk
      omega
  · have := h.high i hi
    have := hK.nonneg hi hk
    omega
end

end Go.Proofs.YtminfghiejgieaaDoor

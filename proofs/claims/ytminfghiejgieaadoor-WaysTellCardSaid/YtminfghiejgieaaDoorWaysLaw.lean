/- How many shortest ways: plain laws. -/
import Derived.Test.YtminfghiejgieaaDoorUpsLaw
namespace Go.Proofs.YtminfghiejgieaaDoor
set_option linter.unusedVariables false

/-- Of those below r that are so, the sum. -/
def sumB (p : Nat → Bool) (W : Nat → Int) : Nat → Int
  | 0 => 0
  | r + 1 => sumB p W r + if p r = true then W r else 0
/-- Of a list's first r numbers, the sum. -/
def listS (l : List Int) (W : Nat → Int) : Nat → Int
  | 0 => 0
  | r + 1 => listS l W r + W (atL l r).toNat

theorem listS_more (l : List Int) (z : Int) (W : Nat → Int) : ∀ r, r ≤ l.length → listS (l ++ [z]) W r = listS l W r
  | 0, _ => rfl
  | r + 1, h => by
    unfold listS
    rw [listS_more l z W r (by omega)]
    congr 3
    unfold atL
    rw [List.getD_eq_getElem?_getD, List.getD_eq_getElem?_getD, List.getElem?_append_left (by omega)]
theorem sum_pick (p : Nat → Bool) (W : Nat → Int) : ∀ n, listS (pickL p n) W (pickL p n).length = sumB p W n
  | 0 => rfl
  | n + 1 => by
    have ih := sum_pick p W n
    cases h : p n with
    | true =>
      rw [pickL_yes h, List.length_append]
      show listS (pickL p n ++ [(n : Int)]) W (pickL p n).length + W (atL (pickL p n ++ [(n : Int)]) (pickL p n).length).toNat = _
      rw [listS_more _ _ _ _ (Nat.le_refl _), ih]
      show _ = sumB p W n + if p n = true then W n else 0
      rw [if_pos h]
      congr 2
      unfold atL
      simp
    | false =>
      rw [pickL_no h, ih]
      conv => rhs; unfold sumB
      simp [h]

section
variable {p q : Nat → Bool} {W V : Nat → Int}
theorem sumB_congr : ∀ n, (∀ k, k < n → p k = q k ∧ (p k = true → W k = V k)) → sumB p W n = sumB q V n
  | 0, _ => rfl
  | n + 1, h => by
    obtain ⟨h1, h2⟩ := h n (by omega)
    unfold sumB
    rw [sumB_congr n fun k hk => h k (by omega), ← h1]
    by_cases e : p n = true
    · rw [if_pos e, if_pos e, h2 e]
    · rw [if_neg e, if_neg e]
theorem sumB_zero : ∀ n, (∀ k, k < n → p k = true → W k = 0) → sumB p W n = 0
  | 0, _ => rfl
  | n + 1, h => by
    unfold sumB
    rw [sumB_zero n fun k hk => h k (by omega)]
    by_cases e : p n = true
    · rw [if_pos e, h n (by omega) e]; rfl
    · rw [if_neg e]; rfl
theorem sumB_add (p : Nat → Bool) (W V : Nat → Int) : ∀ n, sumB p (fun k => W k + V k) n = sumB p W n + sumB p V n
  | 0 => rfl
  | n + 1 => by
    unfold sumB
    rw [sumB_add p W V n]
    split <;> omega
theorem sumB_swap (p q : Nat → Bool) (X : Nat → Nat → Int) (m : Nat) : ∀ n, sumB p (fun k => sumB q (X k) m) n = sumB q (fun l => sumB p (fun k => X k l) n) m
  | 0 => (sumB_zero m fun _ _ _ => rfl).symm
  | n + 1 => by
    show sumB p (fun k => sumB q (X k) m) n + (if p n = true then sumB q (X n) m else 0) = sumB q (fun l => sumB p (fun k => X k l) n + if p n = true then X n l else 0) m
    rw [sumB_swap p q X m n, sumB_add]
    by_cases e : p n = true
    · simp [e]
    · simp only [e, if_false, Bool.false_eq_true]
      rw [show sumB q (fun _ => (0 : Int)) m = 0 from sumB_zero m fun _ _ _ => rfl]
theorem sumB_one (b : Nat) (x : Int) : ∀ n, sumB p (fun k => if k = b then x else 0) n = if b < n ∧ p b = true then x else 0
  | 0 => by rw [if_neg (by omega)]; rfl
  | n + 1 => by
    show sumB p (fun k => if k = b then x else 0) n + (if p n = true then (if n = b then x else 0) else 0) = _
    rw [sumB_one b x n]
    by_cases e : n = b
    · subst e
      rw [if_neg (show ¬ (n < n ∧ p n = true) by omega), if_pos rfl]
      by_cases h : p n = true
      · rw [if_pos h, if_pos (show n < n + 1 ∧ p n = true from ⟨by omega, h⟩)]; omega
      · rw [if_neg h, if_neg (show ¬ (n < n + 1 ∧ p n = true) from fun k => h k.2)]; rfl
    · rw [if_neg e]
      have h0 : (if p n = true then (0 : Int) else 0) = 0 := by split <;> rfl
      rw [h0]
      by_cases h : b < n ∧ p b = true
      · rw [if_pos h, if_pos (show b < n + 1 ∧ p b = true from ⟨by omega, h.2⟩)]; omega
      · rw [if_neg h, if_neg (show ¬ (b < n + 1 ∧ p b = true) from fun k => h ⟨by omega, k.2⟩)]; rfl
theorem sumB_bound {B : Int} (hB : 0 ≤ B) : ∀ n : Nat, (∀ k, k < n → p k = true → 0 ≤ W k ∧ W k ≤ B) → 0 ≤ sumB p W n ∧ sumB p W n ≤ n * B
  | 0, _ => by unfold sumB; simp
  | n + 1, h => by
    obtain ⟨h1, h2⟩ := sumB_bound hB n fun k hk => h k (by omega)
    have h3 : ((n + 1 : Nat) : Int) * B = n * B + B := by rw [Int.natCast_add, Int.add_mul]; simp
    unfold sumB
    rw [h3]
    by_cases e : p n = true
    · rw [if_pos e]
      have := h n (by omega) e
      omega
    · rw [if_neg e]; omega
end

/-- Neighbours. -/
def nbB (K : Nat → Nat → Int) (a k : Nat) : Bool := decide (k ≠ a ∧ K a k < 16)
/-- How many ways of this length lead from a to b. -/
def pth (n : Nat) (K : Nat → Nat → Int) : Nat → Nat → Nat → Int → Int
  | 0, a, b, d => if a = b ∧ d = 0 then 1 else 0
  | f + 1, a, b, d => if d = 0 then (if a = b then 1 else 0) else sumB (nbB K a) (fun k => pth n K f k b (d - K a k)) n

section
variable {n : Nat} {K : Nat → Nat → Int}
theorem nb_pos (hK : CostM n K) {a k : Nat} (ha : a < n) (hk : k < n) (h : nbB K a k = true) : k ≠ a ∧ 1 ≤ K a k ∧ K a k < 16 := by
  have h1 : k ≠ a ∧ K a k < 16 := of_decide_eq_true h
  exact ⟨h1.1, hK.low a k ha hk (fun e => h1.1 e.symm), h1.2⟩
theorem nb_symm (hK : CostM n K) {a k : Nat} (ha : a < n) (hk : k < n) : nbB K a k = nbB K k a := by
  unfold nbB
  rw [hK.back a k ha hk]
  congr 1
  exact propext ⟨fun h => ⟨fun e => h.1 e.symm, h.2⟩, fun h => ⟨fun e => h.1 e.symm, h.2⟩⟩
theorem pth_neg (hK : CostM n K) : ∀ f a b d, a < n → d < 0 → pth n K f a b d = 0
  | 0, a, b, d, _, h => by unfold pth; rw [if_neg (by omega)]
  | f + 1, a, b, d, ha, h => by
    unfold pth
    rw [if_neg (by omega)]
    exact sumB_zero n fun k hk hp => pth_neg hK f k b _ hk (by have := nb_pos hK ha hk hp; omega)
theorem pth_zero (f a b : Nat) : pth n K f a b 0 = if a = b then 1 else 0 := by
  cases f with
  | zero => unfold pth; simp
  | succ f => unfold pth; rw [if_pos rfl]
theorem pth_stable (hK : CostM n K) : ∀ (f g a b : Nat) (d : Int), a < n → d ≤ f → d ≤ g → pth n K f a b d = pth n K g a b d
  | 0, g, a, b, d, ha, h1, h2 => by
    rcases (show d < 0 ∨ d = 0 by omega) with h | h
    · rw [pth_neg hK 0 a b d ha h, pth_neg hK g a b d ha h]
    · rw [h, pth_zero, pth_zero]
  | f + 1, 0, a, b, d, ha, h1, h2 => by
    rcases (show d < 0 ∨ d = 0 by omega) with h | h
    · rw [pth_neg hK (f + 1) a b d ha h, pth_neg hK 0 a b d ha h]
    · rw [h, pth_zero, pth_zero]
  | f + 1, g + 1, a, b, d, ha, h1, h2 => by
    unfold pth
    split
    · rfl
    · refine sumB_congr n fun k hk => ⟨rfl, fun hp => ?_⟩
      have := nb_pos hK ha hk hp
      exact pth_stable hK f g k b _ hk (by omega) (by omega)
/-- By the last step. -/
theorem pth_last (hK : CostM n K) : ∀ (f a b : Nat) (d : Int), a < n → b < n → 0 < d → d ≤ f → pth n K f a b d = sumB (nbB K b) (fun l => pth n K f a l (d - K b l)) n
  | 0, a, b, d, _, _, h1, h2 => by omega
  | f + 1, a, b, d, ha, hb, h1, h2 => by
    -- one step, then by the last
    have hone : ∀ k, k < n → nbB K a k = true → pth n K f k b (d - K a k) = (if k = b then (if K a b = d then 1 else 0) else 0) + sumB (nbB K b) (fun l => pth n K f k l (d - K a k - K b l)) n := fun k hk hp => by
      have hp' := nb_pos hK ha hk hp
      rcases Int.lt_trichotomy (d - K a k) 0 with h | h | h
      · rw [pth_neg hK f k b _ hk h, show sumB (nbB K b) (fun l => pth n K f k l (d - K a k - K b l)) n = 0 from sumB_zero n fun l hl hq => pth_neg hK f k l _ hk (by have := nb_pos hK hb hl hq; omega)]
        by_cases e : k = b
        · subst e; rw [if_pos rfl, if_neg (by omega)]; rfl
        · rw [if_neg e]; rfl
      · rw [h, pth_zero, show sumB (nbB K b) (fun l => pth n K f k l (0 - K b l)) n = 0 from sumB_zero n fun l hl hq => pth_neg hK f k l _ hk (by have := nb_pos hK hb hl hq; omega)]
        by_cases e : k = b
        · subst e; rw [if_pos rfl, if_pos rfl, if_pos (by omega)]; rfl
        · rw [if_neg e, if_neg e]; rfl
      · rw [pth_last hK f k b _ hk hb h (by omega)]
        by_cases e : k = b
        · subst e; rw [if_pos rfl, if_neg (by omega)]; omega
        · rw [if_neg e]; omega
    have htwo : ∀ l, l < n → nbB K b l = true → pth n K (f + 1) a l (d - K b l) = (if l = a then (if K b a = d then 1 else 0) else 0) + sumB (nbB K a) (fun k => pth n K f k l (d - K a k - K b l)) n := fun l hl hq => by
      have hq' := nb_pos hK hb hl hq
      have hz : d - K b l ≤ 0 → sumB (nbB K a) (fun k => pth n K f k l (d - K a k - K b l)) n = 0 := fun h => sumB_zero n fun k hk hp => pth_neg hK f k l _ hk (by have := nb_pos hK ha hk hp; omega)
      rcases Int.lt_trichotomy (d - K b l) 0 with h | h | h
      · rw [pth_neg hK (f + 1) a l _ ha h, hz (by omega)]
        by_cases e : l = a
        · subst e; rw [if_pos rfl, if_neg (by omega)]; rfl
        · rw [if_neg e]; rfl
      · rw [hz (by omega), h, pth_zero]
        by_cases e : l = a
        · subst e; rw [if_pos rfl, if_pos rfl, if_pos (by omega)]; rfl
        · rw [if_neg e, if_neg (fun h => e h.symm)]; rfl
      · have e1 : pth n K (f + 1) a l (d - K b l) = sumB (nbB K a) (fun k => pth n K f k l (d - K a k - K b l)) n := by
          conv => lhs; unfold pth
          rw [if_neg (by omega)]
          exact sumB_congr n fun k hk => ⟨rfl, fun _ => by rw [show d - K b l - K a k = d - K a k - K b l by omega]⟩
        rw [e1]
        by_cases e : l = a
        · subst e; rw [if_pos rfl, if_neg (by omega)]; omega
        · rw [if_neg e]; omega
    have hl : pth n K (f + 1) a b d = sumB (nbB K a) (fun k => (if k = b then (if K a b = d then 1 else 0) else 0) + sumB (nbB K b) (fun l => pth n K f k l (d - K a k - K b l)) n) n := by
      conv => lhs; unfold pth
      rw [if_neg (by omega)]
      exact sumB_congr n fun k hk => ⟨rfl, fun hp => hone k hk hp⟩
    have hr : sumB (nbB K b) (fun l => pth n K (f + 1) a l (d - K b l)) n = sumB (nbB K b) (fun l => (if l = a then (if K b a = d then 1 else 0) else 0) + sumB (nbB K a) (fun k => pth n K f k l (d - K a k - K b l)) n) n :=
      sumB_congr n fun l hl => ⟨rfl, fun hq => htwo l hl hq⟩
    rw [hl, hr, sumB_add, sumB_add, sumB_one, sumB_one, sumB_swap, nb_symm hK ha hb, hK.back a b ha hb]
    by_cases e : nbB K b a = true
    · rw [if_pos (show b < n ∧ nbB K b a = true from ⟨hb, e⟩), if_pos (show a < n ∧ nbB K b a = true from ⟨ha, e⟩)]
    · rw [if_neg (show ¬ (b < n ∧ nbB K b a = true) from fun h => e h.2), if_neg (show ¬ (a < n ∧ nbB K b a = true) from fun h => e h.2)]
/-- As many there as back. -/
theorem pth_back (hK : CostM n K) : ∀ (f a b : Nat) (d : Int), a < n → b < n → d ≤ f → pth n K f a b d = pth n K f b a d
  | 0, a, b, d, ha, hb, h => by
    unfold pth
    by_cases e : a = b
    · subst e; rfl
    · rw [if_neg (fun h => e h.1), if_neg (fun h => e h.1.symm)]
  | f + 1, a, b, d, ha, hb, h => by
    rcases Int.lt_trichotomy d 0 with h0 | h0 | h0
    · rw [pth_neg hK _ a b d ha h0, pth_neg hK _ b a d hb h0]
    · rw [h0, pth_zero, pth_zero]
      by_cases e : a = b
      · rw [if_pos e, if_pos e.symm]
      · rw [if_neg e, if_neg (fun h => e h.symm)]
    · rw [pth_last hK (f + 1) a b d ha hb h0 h]
      conv => rhs; unfold pth
      rw [if_neg (by omega)]
      refine sumB_congr n fun l hl => ⟨rfl, fun hq => ?_⟩
      have := nb_pos hK hb hl hq
      rw [pth_stable hK (f + 1) f a l _ ha (by omega) (by omega), pth_back hK f a l _ ha hl (by omega)]
theorem pth_bound (h8 : n ≤ 8) : ∀ (f a b : Nat) (d : Int), 0 ≤ pth n K f a b d ∧ pth n K f a b d ≤ 8 ^ f
  | 0, a, b, d => by unfold pth; split <;> simp
  | f + 1, a, b, d => by
    have hp : (0 : Int) ≤ 8 ^ f := by exact_mod_cast Nat.zero_le (8 ^ f)
    unfold pth
    split
    · split
      · refine ⟨by omega, ?_⟩
        have : (1 : Int) ≤ 8 ^ (f + 1) := by exact_mod_cast Nat.one_le_pow _ _ (by omega)
        exact this
      · refine ⟨by omega, ?_⟩
        have : (0 : Int) ≤ 8 ^ (f + 1) := by exact_mod_cast Nat.zero_le (8 ^ (f + 1))
        exact this
    · obtain ⟨h1, h2⟩ := sumB_bound (p := nbB K a) (W := fun k => pth n K f k b (d - K a k)) hp n fun k _ _ => pth_bound h8 f k b _
      refine ⟨h1, Int.le_trans h2 ?_⟩
      rw [Int.pow_succ, Int.mul_comm]
      exact Int.mul_le_mul_of_nonneg_left (by omega) hp
end

section
variable {n t : Nat} {K : Nat → Nat → Int} {D : Nat → Int}
/-- None is shorter than it is far. -/
theorem pth_short (hK : CostM n K) (hD : FarD n t K D) : ∀ (f a : Nat) (d : Int), a < n → d < D a → pth n K f a t d = 0
  | 0, a, d, ha, h => by
    unfold pth
    rw [if_neg]
    rintro ⟨rfl, rfl⟩
    rw [hD.zero] at h
    omega
  | f + 1, a, d, ha, h => by
    unfold pth
    split
    · rename_i e
      rw [if_neg]
      rintro rfl
      rw [hD.zero] at h
      omega
    · refine sumB_zero n fun k hk hp => pth_short hK hD f k _ hk ?_
      have h1 := nb_pos hK ha hk hp
      have := hD.tri a k ha hk
      omega
/-- How many shortest ways. -/
def waysF (n t : Nat) (K : Nat → Nat → Int) (D : Nat → Int) (a : Nat) : Int := if D a < 16 then pth n K 16 a t (D a) else 0
theorem ways_self (ht : t < n) (hD : FarD n t K D) : waysF n t K D t = 1 := by
  unfold waysF
  rw [hD.zero, if_pos (by omega), pth_zero, if_pos rfl]
theorem ways_rec (hK : CostM n K) (hD : FarD n t K D) {a : Nat} (ha : a < n) (hne : a ≠ t) : waysF n t K D a = sumB (upB t K D a) (waysF n t K D) n := by
  by_cases h16 : D a < 16
  · have hpos := hD.pos hK ha hne
    unfold waysF
    rw [if_pos h16]
    have e1 : pth n K 16 a t (D a) = sumB (nbB K a) (fun k => pth n K 15 k t (D a - K a k)) n := by
      show pth n K (15 + 1) a t (D a) = _
      conv => lhs; unfold pth
      rw [if_neg (by omega)]
    rw [e1]
    have key : ∀ r, r ≤ n → sumB (nbB K a) (fun k => pth n K 15 k t (D a - K a k)) r = sumB (upB t K D a) (fun k => if D k < 16 then pth n K 16 k t (D k) else 0) r := by
      intro r
      induction r with
      | zero => intro _; rfl
      | succ r ih =>
        intro hr
        unfold sumB
        rw [ih (by omega)]
        congr 1
        have hrn : r < n := by omega
        have hb := hK.back r a hrn ha
        have h0 := hD.low r hrn
        by_cases hu : upB t K D a r = true
        · have hu' : a ≠ t ∧ r ≠ a ∧ D a < 16 ∧ D r + K r a = D a := of_decide_eq_true hu
          have hl := hK.low a r ha hrn (fun e => hu'.2.1 e.symm)
          have hnb : nbB K a r = true := decide_eq_true ⟨hu'.2.1, by omega⟩
          rw [if_pos hnb, if_pos hu, if_pos (by omega)]
          rw [show D a - K a r = D r by omega]
          exact pth_stable hK 15 16 r t _ hrn (by omega) (by omega)
        · rw [if_neg hu]
          by_cases hnb : nbB K a r = true
          · rw [if_pos hnb]
            have h1 := nb_pos hK ha hrn hnb
            refine pth_short hK hD 15 r _ hrn ?_
            have h2 := hD.tri a r ha hrn
            rcases Int.lt_or_eq_of_le (show D a - K a r ≤ D r by omega) with h | h
            · exact h
            · exact absurd (decide_eq_true ⟨hne, h1.1, h16, by omega⟩) hu
          · rw [if_neg hnb]
    exact key n (Nat.le_refl _)
  · unfold waysF
    rw [if_neg h16]
    refine (sumB_zero n fun k hk hp => ?_).symm
    have hp' : a ≠ t ∧ k ≠ a ∧ D a < 16 ∧ D k + K k a = D a := of_decide_eq_true hp
    exact absurd hp'.2.2.1 h16
theorem ways_bound (h8 : n ≤ 8) (a : Nat) : 0 ≤ waysF n t K D a ∧ waysF n t K D a ≤ 281474976710656 := by
  unfold waysF
  split
  · obtain ⟨h1, h2⟩ := pth_bound (K := K) h8 16 a t (D a)
    exact ⟨h1, by have : (8 : Int) ^ 16 = 281474976710656 := by decide
                  omega⟩
  · omega
theorem ways_back {s : Nat} {E : Nat → Int} (hK : CostM n K) (ht : t < n) (hs : s < n) (hD : FarD n t K D) (hE : FarD n s K E) : waysF n t K D s = waysF n s K E t := by
  have e := hD.back hK ht hs hE
  unfold waysF
  rw [e]
  split
  · rename_i h
    exact pth_back hK 16 s t _ hs ht (by omega)
  · rfl
end

end Go.Proofs.YtminfghiejgieaaDoor

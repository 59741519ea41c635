/- All at once, with poison or without: plain laws of what nodes think of one node t. -/
import Derived.Test.YtminfghiejgieaaDoorDistMath
namespace Go.Proofs.YtminfghiejgieaaDoor
set_option linter.unusedVariables false

/-- What node k tells node i. -/
def toldF (po : Bool) (f g : Nat → Int) (i k : Nat) : Int := if po = true ∧ g k = (i : Int) then 16 else f k

/-- The best of the first q neighbours: how far, and which one. -/
def bestF (po : Bool) (K : Nat → Nat → Int) (f g : Nat → Int) (i : Nat) : Nat → Int × Int
  | 0 => (16, -1)
  | q + 1 => if q ≠ i ∧ K i q < 16 ∧ K i q + toldF po f g i q < (bestF po K f g i q).1 then (K i q + toldF po f g i q, (q : Int)) else bestF po K f g i q

/-- What node i thinks then. -/
def thinkF (po : Bool) (n t : Nat) (K : Nat → Nat → Int) (f g : Nat → Int) (i : Nat) : Int × Int := if i = t then (0, -1) else bestF po K f g i n

/-- A step, told by what it does. -/
structure StepR (po : Bool) (n t : Nat) (K : Nat → Nat → Int) (f g f' g' : Nat → Int) : Prop where
  self : f' t = 0 ∧ g' t = -1
  le : ∀ i, i < n → f' i ≤ 16
  low : ∀ i, i < n → i ≠ t → ∀ k, k < n → k ≠ i → K i k < 16 → f' i ≤ K i k + toldF po f g i k
  is : ∀ i, i < n → i ≠ t → (f' i = 16 ∧ g' i = -1) ∨ ∃ k, k < n ∧ k ≠ i ∧ K i k < 16 ∧ g' i = (k : Int) ∧ f' i = K i k + toldF po f g i k ∧ f' i < 16

section
variable {po : Bool} {n t : Nat} {K : Nat → Nat → Int} {f g f' g' D : Nat → Int}
theorem told_ge (hf : ∀ k, k < n → f k ≤ 16) {i k : Nat} (hk : k < n) : f k ≤ toldF po f g i k := by
  unfold toldF
  by_cases h : po = true ∧ g k = (i : Int)
  · rw [if_pos h]; exact hf k hk
  · rw [if_neg h]; exact Int.le_refl _
theorem told_lt {i k : Nat} (h : toldF po f g i k < 16) : toldF po f g i k = f k ∧ (po = true → g k ≠ (i : Int)) := by
  unfold toldF at h ⊢
  by_cases hc : po = true ∧ g k = (i : Int)
  · rw [if_pos hc] at h; omega
  · rw [if_neg hc]; exact ⟨rfl, fun hp hg => hc ⟨hp, hg⟩⟩
theorem told_free {i k : Nat} (h : g k ≠ (i : Int)) : toldF po f g i k = f k := by
  unfold toldF
  rw [if_neg fun hc => h hc.2]

theorem best_le (i : Nat) : ∀ q, (bestF po K f g i q).1 ≤ 16
  | 0 => Int.le_refl _
  | q + 1 => by
    unfold bestF
    have := best_le i q
    split
    · rename_i h; show K i q + toldF po f g i q ≤ 16; omega
    · exact this
theorem best_low {i k : Nat} (h1 : k ≠ i) (h2 : K i k < 16) : ∀ q, k < q → (bestF po K f g i q).1 ≤ K i k + toldF po f g i k
  | 0, h => absurd h (by omega)
  | q + 1, h => by
    unfold bestF
    by_cases e : k = q
    · subst e
      split
      · exact Int.le_refl _
      · rename_i hc
        rcases Int.lt_or_le (K i k + toldF po f g i k) (bestF po K f g i k).1 with h' | h'
        · exact absurd ⟨h1, h2, h'⟩ hc
        · exact h'
    · have ih := best_low h1 h2 q (by omega)
      split
      · rename_i hc
        show K i q + toldF po f g i q ≤ _
        omega
      · exact ih
theorem best_is (i : Nat) : ∀ q, bestF po K f g i q = (16, -1) ∨ ∃ k, k < q ∧ k ≠ i ∧ K i k < 16 ∧ bestF po K f g i q = (K i k + toldF po f g i k, (k : Int)) ∧ K i k + toldF po f g i k < 16
  | 0 => .inl rfl
  | q + 1 => by
    have hle := best_le (po := po) (K := K) (f := f) (g := g) i q
    unfold bestF
    split
    · rename_i hc
      exact .inr ⟨q, by omega, hc.1, hc.2.1, rfl, by omega⟩
    · rcases best_is i q with h | ⟨k, hk, h⟩
      · exact .inl h
      · exact .inr ⟨k, by omega, h⟩

theorem think_step : StepR po n t K f g (fun i => (thinkF po n t K f g i).1) (fun i => (thinkF po n t K f g i).2) where
  self := by unfold thinkF; simp
  le i hi := by
    show (thinkF po n t K f g i).1 ≤ 16
    unfold thinkF
    split
    · show (0 : Int) ≤ 16; omega
    · exact best_le i n
  low i hi hne k hk h1 h2 := by
    show (thinkF po n t K f g i).1 ≤ _
    unfold thinkF
    rw [if_neg hne]
    exact best_low h1 h2 n hk
  is i hi hne := by
    show ((thinkF po n t K f g i).1 = 16 ∧ (thinkF po n t K f g i).2 = -1) ∨ ∃ k, k < n ∧ k ≠ i ∧ K i k < 16 ∧ (thinkF po n t K f g i).2 = (k : Int) ∧ (thinkF po n t K f g i).1 = _ ∧ (thinkF po n t K f g i).1 < 16
    unfold thinkF
    rw [if_neg hne]
    rcases best_is (po := po) (K := K) (f := f) (g := g) i n with h | ⟨k, hk, h1, h2, h, h3⟩
    · left; rw [h]; exact ⟨rfl, rfl⟩
    · right; refine ⟨k, hk, h1, h2, ?_⟩; rw [h]; exact ⟨rfl, rfl, h3⟩

theorem StepR.ranged (hK : CostM n K) (h : StepR po n t K f g f' g') (hf : ∀ k, k < n → 0 ≤ f k ∧ f k ≤ 16) : ∀ k, k < n → 0 ≤ f' k ∧ f' k ≤ 16 := fun i hi => by
  refine ⟨?_, h.le i hi⟩
  by_cases e : i = t
  · subst e; rw [h.self.1]; exact Int.le_refl _
  · rcases h.is i hi e with ⟨h1, -⟩ | ⟨k, hk, -, -, -, h4, h5⟩
    · omega
    · have h6 := hK.nonneg hi hk
      have h7 := told_ge (po := po) (g := g) (i := i) (fun k hk => (hf k hk).2) hk
      have := (hf k hk).1
      omega

/-- With poison none goes straight back. -/
theorem StepR.notBack (h : StepR true n t K f g f' g') (hK : CostM n K) {i p : Nat} (hi : i < n) (hp : g' i = (p : Int)) : g p ≠ (i : Int) := by
  by_cases e : i = t
  · subst e
    rw [h.self.2] at hp
    omega
  · rcases h.is i hi e with ⟨-, h2⟩ | ⟨k, hk, hne, -, h3, h4, h5⟩
    · rw [h2] at hp; omega
    · rw [h3] at hp
      obtain rfl : k = p := by omega
      have h6 := hK.nonneg hi hk
      exact (told_lt (po := true) (f := f) (g := g) (i := i) (k := k) (by omega)).2 rfl
end

/-- A round of the reckoning without poison. -/
def RoundK (n t : Nat) (K : Nat → Nat → Int) (d e : Nat → Int) : Prop := ∀ i, i < n → e i ≤ startF t i ∧ (∀ k, k < n → k ≠ i → K i k < 16 → e i ≤ K i k + d k) ∧ (e i = startF t i ∨ ∃ k, k < n ∧ k ≠ i ∧ K i k < 16 ∧ e i = K i k + d k)

theorem rounds_k {n m t : Nat} {a b c : Nat → Int} (hr : Right n m a b c) (d : Nat → Int) (r : Nat) : RoundK n t (costF m a b c) (rounds t a b c m d r) (rounds t a b c m d (r + 1)) := fun i hi => by
  obtain ⟨h1, h2, h3⟩ := rounds_round (t := t) hr d r i hi
  refine ⟨h1, fun k hk hne h16 => h2 k _ (cost_edge hr hne h16), ?_⟩
  rcases h3 with h | ⟨v, k, he, h⟩
  · exact .inl h
  · obtain ⟨-, hv, hn, -, h15⟩ := he.ok hr
    have e : costF m a b c i v = k := costV_edge hr he
    exact .inr ⟨v, hv, fun e => hn e.symm, by omega, by rw [e]; exact h⟩

section
variable {po : Bool} {n t : Nat} {K : Nat → Nat → Int} {f g f' g' D x x' : Nat → Int}
/-- From the start on the poison does no harm: they think what they would without. -/
structure LineInv (n : Nat) (K : Nat → Nat → Int) (x f g : Nat → Int) : Prop where
  eq : ∀ i, i < n → f i = x i
  back : ∀ k i, k < n → i < n → g k = (i : Int) → K k i + x i ≤ x k

theorem LineInv.step (hK : CostM n K) (ht : t < n) (hx : ∀ i, i < n → 0 ≤ x i ∧ x i ≤ 16) (hR : RoundK n t K x x') (hfall : ∀ i, i < n → x' i ≤ x i) (hx' : ∀ i, i < n → 0 ≤ x' i) (h : LineInv n K x f g) (hS : StepR po n t K f g f' g') : LineInv n K x' f' g' := by
  have hf16 : ∀ k, k < n → f k ≤ 16 := fun k hk => by rw [h.eq k hk]; exact (hx k hk).2
  have heq : ∀ i, i < n → f' i = x' i := fun i hi => by
    by_cases e : i = t
    · subst e
      have h1 := (hR i hi).1
      unfold startF at h1
      rw [if_pos rfl] at h1
      have := hx' i hi
      rw [hS.self.1]
      omega
    · apply Int.le_antisymm
      · rcases (hR i hi).2.2 with h1 | ⟨k, hk, hne, h16, h1⟩
        · unfold startF at h1
          rw [if_neg e] at h1
          rw [h1]
          exact hS.le i hi
        · have h2 := hS.low i hi e k hk hne h16
          by_cases hp : g k = (i : Int)
          · have h3 := h.back k i hk hi hp
            have h4 := hK.back i k hi hk
            have h5 := hK.low i k hi hk (fun e => hne e.symm)
            have h6 := hfall i hi
            omega
          · rw [told_free hp, h.eq k hk] at h2
            omega
      · rcases hS.is i hi e with ⟨h1, -⟩ | ⟨k, hk, hne, h16, -, h1, -⟩
        · rw [h1]
          have h2 := (hR i hi).1
          unfold startF at h2
          rw [if_neg e] at h2
          exact h2
        · have h2 := (hR i hi).2.1 k hk hne h16
          have h3 := told_ge (po := po) (g := g) (i := i) hf16 hk
          rw [h.eq k hk] at h3
          omega
  refine ⟨heq, fun k i hk hi hg => ?_⟩
  by_cases e : k = t
  · subst e
    rw [hS.self.2] at hg
    omega
  · rcases hS.is k hk e with ⟨-, h1⟩ | ⟨p, hp, hne, h16, h1, h2, h3⟩
    · rw [h1] at hg; omega
    · rw [h1] at hg
      obtain rfl : p = i := by omega
      have h4 := hK.nonneg hk hp
      have h5 := (told_lt (po := po) (f := f) (g := g) (i := k) (k := p) (by omega)).1
      rw [h5, h.eq p hp] at h2
      have h6 := heq k hk
      have h7 := hfall p hp
      omega

/-- When all is right already, the next one leads there. -/
theorem StepR.leads (hK : CostM n K) (hD : FarD n t K D) (hf : ∀ k, k < n → D k ≤ f k ∧ f k ≤ 16) (hS : StepR po n t K f g f' g') {i : Nat} (hi : i < n) (he : f' i = D i) :
    (∀ p : Int, g' i = p → p = -1 ∨ ∃ k : Nat, k < n ∧ p = (k : Int) ∧ k ≠ i ∧ i ≠ t ∧ K i k < 16 ∧ D k + K i k = D i ∧ D i < 16) ∧ (g' i = -1 ↔ (i = t ∨ D i = 16)) := by
  by_cases e : i = t
  · subst e
    refine ⟨fun p hp => .inl (by rw [hS.self.2] at hp; exact hp.symm), ⟨fun _ => .inl rfl, fun _ => hS.self.2⟩⟩
  · rcases hS.is i hi e with ⟨h1, h2⟩ | ⟨k, hk, hne, h16, h2, h3, h4⟩
    · refine ⟨fun p hp => .inl (by rw [h2] at hp; exact hp.symm), ⟨fun _ => .inr (by rw [← he]; exact h1), fun _ => h2⟩⟩
    · have h5 := hK.nonneg hi hk
      have h6 := (told_lt (po := po) (f := f) (g := g) (i := i) (k := k) (by omega)).1
      have h7 := hD.tri i k hi hk
      have h8 := (hf k hk).1
      refine ⟨fun p hp => .inr ⟨k, hk, by rw [← hp, h2], hne, e, h16, by omega, by omega⟩, ⟨fun h => by rw [h2] at h; omega, fun h => ?_⟩⟩
      rcases h with h | h
      · exact absurd h e
      · omega

/-- Whatever they think: no nearer than it is, or than the steps behind. -/
theorem line_low (hK : CostM n K) (hD : FarD n t K D) (F G : Nat → Nat → Int) (h0 : ∀ k, k < n → 0 ≤ F 0 k ∧ F 0 k ≤ 16) (hS : ∀ r, StepR po n t K (F r) (G r) (F (r + 1)) (G (r + 1))) :
    ∀ r, (∀ k, k < n → 0 ≤ F r k ∧ F r k ≤ 16) ∧ ∀ i, i < n → D i ≤ F r i ∨ (r : Int) ≤ F r i
  | 0 => ⟨h0, fun i hi => .inr (h0 i hi).1⟩
  | r + 1 => by
    obtain ⟨h1, h2⟩ := line_low hK hD F G h0 hS r
    refine ⟨(hS r).ranged hK h1, fun i hi => ?_⟩
    by_cases e : i = t
    · subst e
      left
      rw [hD.zero, (hS r).self.1]
      exact Int.le_refl _
    · rcases (hS r).is i hi e with ⟨h3, -⟩ | ⟨k, hk, hne, -, -, h4, -⟩
      · left; rw [h3]; exact hD.high i hi
      · have h5 := told_ge (po := po) (g := G r) (i := i) (fun k hk => (h1 k hk).2) hk
        have h6 := hD.tri i k hi hk
        have h7 := hK.low i k hi hk (fun e => hne e.symm)
        rcases h2 k hk with h8 | h8
        · left; omega
        · right; omega

theorem line_above (hK : CostM n K) (hD : FarD n t K D) (F G : Nat → Nat → Int) (h0 : ∀ k, k < n → 0 ≤ F 0 k ∧ F 0 k ≤ 16) (hS : ∀ r, StepR po n t K (F r) (G r) (F (r + 1)) (G (r + 1))) {r : Nat} (hr : 16 ≤ r) : ∀ i, i < n → D i ≤ F r i := fun i hi => by
  obtain ⟨h1, h2⟩ := line_low hK hD F G h0 hS r
  rcases h2 i hi with h | h
  · exact h
  · have := hD.high i hi
    omega

/-- By the number of links on a shortest way. -/
theorem line_comes (hK : CostM n K) (ht : t < n) (hD : FarD n t K D) (x : Nat → Nat → Int) (hx0 : ∀ i, i < n → x 0 i = startF t i) (hxR : ∀ r, RoundK n t K (x r) (x (r + 1))) (hxD : ∀ r i, i < n → D i ≤ x r i)
    (F G : Nat → Nat → Int) (h0 : ∀ k, k < n → 0 ≤ F 0 k ∧ F 0 k ≤ 16) (hS : ∀ r, StepR po n t K (F r) (G r) (F (r + 1)) (G (r + 1))) :
    ∀ h i, i < n → x h i = D i → F (16 + h) i = D i
  | 0, i, hi, he => by
    rw [hx0 i hi] at he
    unfold startF at he
    by_cases e : i = t
    · subst e
      rw [if_pos rfl] at he
      rw [← he]
      exact (hS 15).self.1
    · rw [if_neg e] at he
      have h1 := line_above hK hD F G h0 hS (r := 16) (by omega) i hi
      have h2 := ((line_low hK hD F G h0 hS 16).1 i hi).2
      show F 16 i = D i
      omega
  | h + 1, i, hi, he => by
    have hab := line_above hK hD F G h0 hS (r := 16 + (h + 1)) (by omega) i hi
    have h16 := ((line_low hK hD F G h0 hS (16 + (h + 1))).1 i hi).2
    by_cases e : i = t
    · subst e
      rw [hD.zero]
      exact (hS (16 + h)).self.1
    · refine Int.le_antisymm ?_ hab
      rcases (hxR h i hi).2.2 with h1 | ⟨k, hk, hne, hk16, h1⟩
      · unfold startF at h1
        rw [if_neg e] at h1
        omega
      · have hkD : x h k = D k := by
          have h2 := hD.tri i k hi hk
          have h3 := hxD h k hk
          omega
        have ih := line_comes hK ht hD x hx0 hxR hxD F G h0 hS h k hk hkD
        have hlow := (hS (16 + h)).low i hi e k hk hne hk16
        have hlow' : F (16 + (h + 1)) i ≤ K i k + toldF po (F (16 + h)) (G (16 + h)) i k := hlow
        by_cases hp : G (16 + h) k = (i : Int)
        · exfalso
          -- k would go on by i
          have hrr : ∃ r, 16 + h = r + 1 ∧ 15 ≤ r := ⟨15 + h, by omega, by omega⟩
          obtain ⟨r, hr, hr15⟩ := hrr
          rw [hr] at hp ih
          by_cases ek : k = t
          · subst ek
            rw [(hS r).self.2] at hp
            omega
          · rcases (hS r).is k hk ek with ⟨-, h2⟩ | ⟨p, hpn, hpne, hp16, h2, h3, h4⟩
            · rw [h2] at hp; omega
            · rw [h2] at hp
              obtain rfl : p = i := by omega
              have hKb := hK.back p k hi hk
              have hK1 := hK.low p k hi hk (fun e => hne e.symm)
              have h5 := (told_lt (po := po) (f := F r) (g := G r) (i := k) (k := p) (by omega)).1
              rw [h5] at h3
              rcases (line_low hK hD F G h0 hS r).2 p hi with h6 | h6
              · omega
              · have := hD.high p hi
                omega
        · rw [told_free hp, ih] at hlow'
          omega
end

end Go.Proofs.YtminfghiejgieaaDoor

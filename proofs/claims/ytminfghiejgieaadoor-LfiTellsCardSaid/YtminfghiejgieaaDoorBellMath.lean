/- What a round of thoughts tells, in plain numbers. -/
import Derived.Test.YtminfghiejgieaaDoorGraph
import Derived.Test.YtminfghiejgieaaDoorTouch
namespace Go.Proofs.YtminfghiejgieaaDoor
set_option linter.unusedVariables false

/-- What nodes think at first. -/
def startF (to i : Nat) : Int := if i = to then 0 else 16

/-- The links as natural numbers. -/
def nA (a : Nat → Int) (j : Nat) : Nat := (a j).toNat

/-- What nodes think behind the first r links of a round. -/
def roundTo (t : Nat) (a b c : Nat → Int) (d : Nat → Int) : Nat → Nat → Int
  | 0 => startF t
  | r + 1 => upd (upd (roundTo t a b c d r) (nA a r) (min (roundTo t a b c d r (nA a r)) (c r + d (nA b r)))) (nA b r) (min (roundTo t a b c d r (nA b r)) (c r + d (nA a r)))

theorem roundTo_step {t q p s : Nat} {a b c d : Nat → Int} (ha : nA a q = p) (hb : nA b q = s) (i : Nat) :
    roundTo t a b c d (q + 1) i = upd (upd (roundTo t a b c d q) p (min (roundTo t a b c d q p) (c q + d s))) s (min (roundTo t a b c d q s) (c q + d p)) i := by
  rw [← ha, ← hb]
  rfl

/-- Distances. -/
def RangedV (n : Nat) (d : Nat → Int) : Prop := ∀ i, i < n → 0 ≤ d i ∧ d i ≤ 16

theorem startF_ranged (t n : Nat) : RangedV n (startF t) := fun i _ => by
  unfold startF
  split <;> omega

/-- A link of cost k between u and v. -/
def Edge (m : Nat) (a b c : Nat → Int) (u v : Nat) (k : Int) : Prop := ∃ j, j < m ∧ c j = k ∧ ((nA a j = u ∧ nA b j = v) ∨ (nA a j = v ∧ nA b j = u))

section
variable {n m r : Nat} {a b c : Nat → Int} {u v : Nat} {k k' : Int}
theorem Edge.symm (h : Edge m a b c u v k) : Edge m a b c v u k := by
  obtain ⟨j, hj, hc, h⟩ := h
  exact ⟨j, hj, hc, h.symm⟩
theorem Edge.more (h : Edge r a b c u v k) (hm : r ≤ m) : Edge m a b c u v k := by
  obtain ⟨j, hj, h⟩ := h
  exact ⟨j, by omega, h⟩
theorem right_nat (hr : Right n m a b c) {j : Nat} (hj : j < m) : nA a j < n ∧ nA b j < n ∧ nA a j ≠ nA b j ∧ 1 ≤ c j ∧ c j ≤ 15 ∧ a j = (nA a j : Int) ∧ b j = (nA b j : Int) := by
  obtain ⟨⟨h0, h1, h2, h3, h4, h5⟩, h6, -⟩ := hr j hj
  unfold nA
  refine ⟨by omega, by omega, by omega, h4, h5, by omega, by omega⟩
theorem Edge.ok (hr : Right n m a b c) (h : Edge m a b c u v k) : u < n ∧ v < n ∧ u ≠ v ∧ 1 ≤ k ∧ k ≤ 15 := by
  obtain ⟨j, hj, rfl, h⟩ := h
  obtain ⟨h0, h1, h2, h3, h4, -, -⟩ := right_nat hr hj
  rcases h with ⟨rfl, rfl⟩ | ⟨rfl, rfl⟩
  · exact ⟨h0, h1, h2, h3, h4⟩
  · exact ⟨h1, h0, fun e => h2 e.symm, h3, h4⟩
theorem Edge.one_lt (hr : Right n m a b c) {i j : Nat} (hi : i < m) (hj : j < i) (h : (nA a i = u ∧ nA b i = v) ∨ (nA a i = v ∧ nA b i = u)) (h' : (nA a j = u ∧ nA b j = v) ∨ (nA a j = v ∧ nA b j = u)) : False := by
  obtain ⟨-, -, h3⟩ := hr i hi
  refine h3 j hj ?_
  obtain ⟨-, -, -, -, -, ea, eb⟩ := right_nat hr hi
  obtain ⟨-, -, -, -, -, ea', eb'⟩ := right_nat hr (show j < m by omega)
  unfold SamePair
  rw [ea, eb, ea', eb']
  omega
theorem Edge.idx (hr : Right n m a b c) {i j : Nat} (hi : i < m) (hj : j < m) (h : (nA a i = u ∧ nA b i = v) ∨ (nA a i = v ∧ nA b i = u)) (h' : (nA a j = u ∧ nA b j = v) ∨ (nA a j = v ∧ nA b j = u)) : i = j := by
  rcases Nat.lt_trichotomy i j with hlt | e | hlt
  · exact (Edge.one_lt hr hj hlt h' h).elim
  · exact e
  · exact (Edge.one_lt hr hi hlt h h').elim
theorem Edge.one (hr : Right n m a b c) (h : Edge m a b c u v k) (h' : Edge m a b c u v k') : k = k' := by
  obtain ⟨i, hi, rfl, h⟩ := h
  obtain ⟨j, hj, rfl, h'⟩ := h'
  rw [Edge.idx hr hi hj h h']
end

/-- e is what is thought behind d: by the ways of E, and what is thought at first. -/
def IsRound (n t : Nat) (E : Nat → Nat → Int → Prop) (d e : Nat → Int) : Prop :=
  ∀ i, i < n → e i ≤ startF t i ∧ (∀ v k, E i v k → e i ≤ k + d v) ∧ (e i = startF t i ∨ ∃ v k, E i v k ∧ e i = k + d v)

theorem roundTo_at {n m t r : Nat} {a b c d : Nat → Int} (hr : Right n m a b c) (hrm : r < m) (i : Nat) :
    roundTo t a b c d (r + 1) i = if i = nA b r then min (roundTo t a b c d r i) (c r + d (nA a r)) else if i = nA a r then min (roundTo t a b c d r i) (c r + d (nA b r)) else roundTo t a b c d r i := by
  rw [roundTo_step rfl rfl]
  unfold upd
  by_cases h1 : i = nA b r
  · subst h1; simp
  · simp only [if_neg h1]
    by_cases h2 : i = nA a r
    · subst h2; simp
    · simp only [if_neg h2]

theorem roundTo_start {n m t : Nat} {a b c d : Nat → Int} (hr : Right n m a b c) (i : Nat) : ∀ r, r ≤ m → roundTo t a b c d r i ≤ startF t i
  | 0, _ => Int.le_refl _
  | r + 1, h => by
    have ih := roundTo_start (t := t) (d := d) hr i r (by omega)
    rw [roundTo_at hr (by omega)]
    split
    · omega
    · split <;> omega

theorem roundTo_le {n m t : Nat} {a b c d : Nat → Int} (hr : Right n m a b c) {i v : Nat} {k : Int} : ∀ r, r ≤ m → Edge r a b c i v k → roundTo t a b c d r i ≤ k + d v
  | 0, _, ⟨j, hj, _⟩ => absurd hj (by omega)
  | r + 1, h, ⟨j, hj, hc, he⟩ => by
    have hle : roundTo t a b c d (r + 1) i ≤ roundTo t a b c d r i := by
      rw [roundTo_at hr (by omega)]
      split
      · omega
      · split <;> omega
    rcases Nat.lt_or_ge j r with hlt | hge
    · have ih := roundTo_le (t := t) (d := d) hr r (by omega) ⟨j, hlt, hc, he⟩
      omega
    · obtain rfl : j = r := by omega
      obtain ⟨-, -, hne, -⟩ := right_nat hr (show j < m by omega)
      rw [roundTo_at hr (by omega), ← hc]
      rcases he with ⟨e1, e2⟩ | ⟨e1, e2⟩
      · rw [if_neg (by omega), if_pos e1.symm, e2]; omega
      · rw [if_pos e2.symm, e1]; omega

theorem roundTo_is {n m t : Nat} {a b c d : Nat → Int} (hr : Right n m a b c) (i : Nat) : ∀ r, r ≤ m → roundTo t a b c d r i = startF t i ∨ ∃ v k, Edge r a b c i v k ∧ roundTo t a b c d r i = k + d v
  | 0, _ => .inl rfl
  | r + 1, h => by
    have ih : roundTo t a b c d r i = startF t i ∨ ∃ v k, Edge (r + 1) a b c i v k ∧ roundTo t a b c d r i = k + d v := by
      rcases roundTo_is (t := t) (d := d) hr i r (by omega) with h | ⟨v, k, he, h⟩
      · exact .inl h
      · exact .inr ⟨v, k, he.more (by omega), h⟩
    rw [roundTo_at hr (by omega)]
    by_cases h1 : i = nA b r
    · rw [if_pos h1]
      rcases Int.le_total (roundTo t a b c d r i) (c r + d (nA a r)) with h2 | h2
      · rw [Int.min_eq_left h2]; exact ih
      · rw [Int.min_eq_right h2]; exact .inr ⟨nA a r, c r, ⟨r, by omega, rfl, .inr ⟨rfl, h1.symm⟩⟩, rfl⟩
    · rw [if_neg h1]
      by_cases h3 : i = nA a r
      · rw [if_pos h3]
        rcases Int.le_total (roundTo t a b c d r i) (c r + d (nA b r)) with h2 | h2
        · rw [Int.min_eq_left h2]; exact ih
        · rw [Int.min_eq_right h2]; exact .inr ⟨nA b r, c r, ⟨r, by omega, rfl, .inl ⟨h3.symm, rfl⟩⟩, rfl⟩
      · rw [if_neg h3]; exact ih

theorem roundTo_round {n m t : Nat} {a b c d : Nat → Int} (hr : Right n m a b c) : IsRound n t (Edge m a b c) d (roundTo t a b c d m) := fun i _ =>
  ⟨roundTo_start hr i m (Nat.le_refl _), fun v k h => roundTo_le hr m (Nat.le_refl _) h, roundTo_is hr i m (Nat.le_refl _)⟩

/-- Links lead from node to node, at some cost. -/
def GoodE (n : Nat) (E : Nat → Nat → Int → Prop) : Prop := ∀ u v k, E u v k → u < n ∧ v < n ∧ 1 ≤ k

theorem edge_good {n m : Nat} {a b c : Nat → Int} (hr : Right n m a b c) : GoodE n (Edge m a b c) := fun u v k h => by
  obtain ⟨h1, h2, -, h3, -⟩ := h.ok hr
  exact ⟨h1, h2, h3⟩

section
variable {n t : Nat} {E : Nat → Nat → Int → Prop} {d e d' e' D : Nat → Int}
theorem IsRound.mono (hE : GoodE n E) (h : IsRound n t E d e) (h' : IsRound n t E d' e') (hd : ∀ i, i < n → d i ≤ d' i) : ∀ i, i < n → e i ≤ e' i := by
  intro i hi
  obtain ⟨h1, h2, -⟩ := h i hi
  obtain ⟨-, -, h3⟩ := h' i hi
  rcases h3 with h3 | ⟨v, k, he, h3⟩
  · omega
  · have := h2 v k he
    have := hd v (hE _ _ _ he).2.1
    omega
theorem IsRound.eq (hE : GoodE n E) (h : IsRound n t E d e) (h' : IsRound n t E d' e') (hd : ∀ i, i < n → d i = d' i) : ∀ i, i < n → e i = e' i := fun i hi =>
  Int.le_antisymm (IsRound.mono hE h h' (fun i hi => Int.le_of_eq (hd i hi)) i hi) (IsRound.mono hE h' h (fun i hi => Int.le_of_eq (hd i hi).symm) i hi)
theorem IsRound.ranged (hE : GoodE n E) (h : IsRound n t E d e) (hd : RangedV n d) : RangedV n e := by
  intro i hi
  obtain ⟨h1, h2, h3⟩ := h i hi
  have hs := startF_ranged t n i hi
  refine ⟨?_, by omega⟩
  rcases h3 with h3 | ⟨v, k, he, h3⟩
  · omega
  · have := hE _ _ _ he
    have := hd v this.2.1
    omega

/-- Whatever was thought, behind r rounds it is no less than the least of what stays and r. -/
theorem fixed_low (hE : GoodE n E) (hD : IsRound n t E D D) (x : Nat → Nat → Int) (hx : ∀ r, IsRound n t E (x r) (x (r + 1))) (h0 : ∀ i, i < n → 0 ≤ x 0 i) :
    ∀ (r : Nat) (i : Nat), i < n → min (D i) r ≤ x r i
  | 0, i, hi => by have := h0 i hi; omega
  | r + 1, i, hi => by
    obtain ⟨h1, h2, -⟩ := hD i hi
    obtain ⟨-, -, h3⟩ := hx r i hi
    rcases h3 with h3 | ⟨v, k, he, h3⟩
    · omega
    · have hg := hE _ _ _ he
      have := fixed_low hE hD x hx h0 r v hg.2.1
      have := h2 v k he
      omega

theorem fixed_zero (hE : GoodE n E) (hD : IsRound n t E D D) (hR : RangedV n D) {i : Nat} (hi : i < n) (h : D i ≤ 0) : i = t := by
  obtain ⟨-, -, h3⟩ := hD i hi
  rcases h3 with h3 | ⟨v, k, he, h3⟩
  · unfold startF at h3
    by_cases e : i = t
    · exact e
    · rw [if_neg e] at h3; omega
  · have hg := hE _ _ _ he
    have := hR v hg.2.1
    omega

theorem fixed_high (hE : GoodE n E) (hD : IsRound n t E D D) (x : Nat → Nat → Int) (hx : ∀ r, IsRound n t E (x r) (x (r + 1))) :
    ∀ (r : Nat) (i : Nat), i < n → RangedV n D → D i < r → x r i ≤ D i
  | 0, i, hi, hR, h => by have := hR i hi; omega
  | r + 1, i, hi, hR, h => by
    obtain ⟨-, -, h3⟩ := hD i hi
    obtain ⟨h1, h2, -⟩ := hx r i hi
    rcases h3 with h3 | ⟨v, k, he, h3⟩
    · omega
    · have hg := hE _ _ _ he
      have := fixed_high hE hD x hx r v hg.2.1 hR (by omega)
      have := h2 v k he
      omega

/-- Behind seventeen rounds all think what stays. -/
theorem fixed_seventeen (hE : GoodE n E) (hD : IsRound n t E D D) (hR : RangedV n D) (x : Nat → Nat → Int) (hx : ∀ r, IsRound n t E (x r) (x (r + 1))) (h0 : ∀ i, i < n → 0 ≤ x 0 i) :
    ∀ r, 17 ≤ r → ∀ i, i < n → x r i = D i := by
  intro r hr i hi
  have h1 := fixed_low hE hD x hx h0 r i hi
  have h2 := fixed_high hE hD x hx r i hi hR (by have := hR i hi; omega)
  have := hR i hi
  omega

/-- From the beginning on nothing is farther than it was. -/
theorem falls (hE : GoodE n E) (x : Nat → Nat → Int) (hx : ∀ r, IsRound n t E (x r) (x (r + 1))) (h0 : ∀ i, i < n → x 0 i = startF t i) : ∀ (r : Nat) (i : Nat), i < n → x (r + 1) i ≤ x r i
  | 0, i, hi => by have := (hx 0 i hi).1; have := h0 i hi; omega
  | r + 1, i, hi => IsRound.mono hE (hx (r + 1)) (hx r) (falls hE x hx h0 r) i hi

/-- What becomes less at the round r is no less than r. -/
theorem late (hE : GoodE n E) (x : Nat → Nat → Int) (hx : ∀ r, IsRound n t E (x r) (x (r + 1))) (h0 : ∀ i, i < n → x 0 i = startF t i) : ∀ (r : Nat) (i : Nat), i < n → x (r + 1) i < x r i → (r : Int) + 1 ≤ x (r + 1) i
  | 0, i, hi, h => by
    obtain ⟨-, -, h3⟩ := hx 0 i hi
    rcases h3 with h3 | ⟨v, k, he, h3⟩
    · have := h0 i hi; omega
    · have hg := hE _ _ _ he
      have h5 := h0 v hg.2.1
      have := startF_ranged t n v hg.2.1
      omega
  | r + 1, i, hi, h => by
    obtain ⟨-, -, h3⟩ := hx (r + 1) i hi
    obtain ⟨h1, h2, -⟩ := hx r i hi
    rcases h3 with h3 | ⟨v, k, he, h3⟩
    · omega
    · have hg := hE _ _ _ he
      have h4 := h2 v k he
      have := late hE x hx h0 r v hg.2.1 (by omega)
      omega

theorem fixed_sixteen (hE : GoodE n E) (x : Nat → Nat → Int) (hx : ∀ r, IsRound n t E (x r) (x (r + 1))) (h0 : ∀ i, i < n → x 0 i = startF t i) : IsRound n t E (x 16) (x 16) := by
  have h : ∀ i, i < n → x 17 i = x 16 i := fun i hi => by
    have h1 := falls hE x hx h0 16 i hi
    rcases Int.lt_or_eq_of_le h1 with h2 | h2
    · have h3 := late hE x hx h0 16 i hi h2
      have h4 := (hx 16 i hi).1
      have := startF_ranged t n i hi
      omega
    · exact h2
  intro i hi
  have h1 := hx 16 i hi
  have e : x (16 + 1) i = x 16 i := h i hi
  rw [e] at h1
  exact h1
end

/-- How many below n are so. -/
def cntB (p : Nat → Bool) : Nat → Nat
  | 0 => 0
  | n + 1 => cntB p n + if p n = true then 1 else 0

theorem cntB_le (p : Nat → Bool) : ∀ n, cntB p n ≤ n
  | 0 => Nat.le_refl _
  | n + 1 => by have := cntB_le p n; unfold cntB; split <;> omega

theorem cntB_mono {p q : Nat → Bool} : ∀ n, (∀ i, i < n → p i = true → q i = true) → cntB p n ≤ cntB q n
  | 0, _ => Nat.le_refl _
  | n + 1, h => by
    have ih := cntB_mono (p := p) (q := q) n fun i hi => h i (by omega)
    have h1 := h n (by omega)
    unfold cntB
    cases hp : p n <;> cases hq : q n <;> simp_all <;> omega

theorem cntB_lt {p q : Nat → Bool} : ∀ n, (∀ i, i < n → p i = true → q i = true) → (∃ i, i < n ∧ p i = false ∧ q i = true) → cntB p n < cntB q n
  | 0, _, ⟨i, hi, _⟩ => absurd hi (by omega)
  | n + 1, h, ⟨i, hi, hp, hq⟩ => by
    have h1 := h n (by omega)
    rcases Nat.lt_or_ge i n with hlt | hge
    · have ih := cntB_lt (p := p) (q := q) n (fun i hi => h i (by omega)) ⟨i, hlt, hp, hq⟩
      unfold cntB
      cases hp : p n <;> cases hq : q n <;> simp_all <;> omega
    · obtain rfl : i = n := by omega
      have ih := cntB_mono (p := p) (q := q) i fun i hi => h i (by omega)
      unfold cntB
      simp [hp, hq]
      omega

theorem cntB_all {p : Nat → Bool} : ∀ n, n ≤ cntB p n → ∀ i, i < n → p i = true
  | 0, _, i, hi => absurd hi (by omega)
  | n + 1, h, i, hi => by
    have h1 := cntB_le p n
    unfold cntB at h
    cases hp : p n
    · simp [hp] at h; omega
    · rcases Nat.lt_or_ge i n with hlt | hge
      · exact cntB_all n (by simp [hp] at h; omega) i hlt
      · obtain rfl : i = n := by omega
        exact hp

theorem cntB_pos {p : Nat → Bool} {n i : Nat} (hi : i < n) (hp : p i = true) : 1 ≤ cntB p n := by
  have h := cntB_lt (p := fun _ => false) (q := p) n (fun _ _ h => by cases h) ⟨i, hi, rfl, hp⟩
  omega

open Classical in
/-- Of some there is one with the least number. -/
theorem argmin (P : Nat → Prop) (f : Nat → Int) : ∀ n, (∃ i, i < n ∧ P i) → ∃ i, i < n ∧ P i ∧ ∀ j, j < n → P j → f i ≤ f j
  | 0, ⟨i, hi, _⟩ => absurd hi (by omega)
  | n + 1, h => by
    by_cases h1 : ∃ i, i < n ∧ P i
    · obtain ⟨i, hi, hp, hm⟩ := argmin P f n h1
      by_cases h2 : P n ∧ f n < f i
      · refine ⟨n, by omega, h2.1, fun j hj hpj => ?_⟩
        rcases Nat.lt_or_ge j n with hlt | hge
        · have := hm j hlt hpj; omega
        · obtain rfl : j = n := by omega
          exact Int.le_refl _
      · refine ⟨i, by omega, hp, fun j hj hpj => ?_⟩
        rcases Nat.lt_or_ge j n with hlt | hge
        · exact hm j hlt hpj
        · obtain rfl : j = n := by omega
          rcases Int.lt_or_le (f j) (f i) with h3 | h3
          · exact absurd ⟨hpj, h3⟩ h2
          · exact h3
    · obtain ⟨i, hi, hp⟩ := h
      have e : i = n := by
        rcases Nat.lt_or_ge i n with hlt | hge
        · exact absurd ⟨i, hlt, hp⟩ h1
        · omega
      subst e
      refine ⟨i, by omega, hp, fun j hj hpj => ?_⟩
      rcases Nat.lt_or_ge j i with hlt | hge
      · exact absurd ⟨j, hlt, hpj⟩ h1
      · obtain rfl : j = i := by omega
        exact Int.le_refl _

section
variable {n t : Nat} {E : Nat → Nat → Int → Prop} {D : Nat → Int}
/-- What stays is never above what is thought from the beginning on. -/
theorem fixed_below (hE : GoodE n E) (hD : IsRound n t E D D) (x : Nat → Nat → Int) (hx : ∀ r, IsRound n t E (x r) (x (r + 1))) (h0 : ∀ i, i < n → x 0 i = startF t i) : ∀ (r : Nat) (i : Nat), i < n → D i ≤ x r i
  | 0, i, hi => by rw [h0 i hi]; exact (hD i hi).1
  | r + 1, i, hi => IsRound.mono hE hD (hx r) (fixed_below hE hD x hx h0 r) i hi

/-- Each round at least one more thinks what stays. -/
theorem fixed_count (hE : GoodE n E) (ht : t < n) (hD : IsRound n t E D D) (hR : RangedV n D) (x : Nat → Nat → Int) (hx : ∀ r, IsRound n t E (x r) (x (r + 1))) (h0 : ∀ i, i < n → x 0 i = startF t i) :
    ∀ r : Nat, (∀ i, i < n → x r i = D i) ∨ r + 1 ≤ cntB (fun i => decide (x r i = D i)) n
  | 0 => .inr (cntB_pos (i := t) ht (by
      have h1 := h0 t ht
      have h2 := (hD t ht).1
      have h3 := hR t ht
      simp [startF] at h1 h2
      simp
      omega))
  | r + 1 => by
    have hb := fixed_below hE hD x hx h0
    have hf := falls hE x hx h0
    rcases fixed_count hE ht hD hR x hx h0 r with h | h
    · exact .inl fun i hi => IsRound.eq hE (hx r) hD h i hi
    · by_cases hall : ∀ i, i < n → x r i = D i
      · exact .inl fun i hi => IsRound.eq hE (hx r) hD hall i hi
      · right
        have hex : ∃ i, i < n ∧ x r i ≠ D i := Classical.byContradiction fun hno => hall fun i hi => Classical.byContradiction fun hne => hno ⟨i, hi, hne⟩
        obtain ⟨i, hi, hne, hmin⟩ := argmin (fun i => x r i ≠ D i) D n hex
        refine Nat.lt_of_le_of_lt h (cntB_lt n (fun j hj hp => ?_) ⟨i, hi, by simpa using hne, ?_⟩)
        · simp at hp ⊢
          have h1 := hb (r + 1) j hj
          have h2 := hf r j hj
          omega
        · have h1 := hb (r + 1) i hi
          have h2 := hb r i hi
          simp
          obtain ⟨h3, h4, -⟩ := hx r i hi
          obtain ⟨-, -, h5⟩ := hD i hi
          rcases h5 with h5 | ⟨v, k, he, h5⟩
          · omega
          · have hg := hE _ _ _ he
            have h6 := h4 v k he
            have h7 : x r v = D v := Classical.byContradiction fun hne' => by
              have := hmin v hg.2.1 hne'
              omega
            omega

/-- From the beginning on all think what stays behind fewer rounds than there are nodes. -/
theorem fixed_fewer (hE : GoodE n E) (ht : t < n) (hD : IsRound n t E D D) (hR : RangedV n D) (x : Nat → Nat → Int) (hx : ∀ r, IsRound n t E (x r) (x (r + 1))) (h0 : ∀ i, i < n → x 0 i = startF t i) :
    ∀ r, n ≤ r + 1 → ∀ i, i < n → x r i = D i := by
  intro r hr i hi
  rcases fixed_count hE ht hD hR x hx h0 r with h | h
  · exact h i hi
  · have := cntB_all (p := fun i => decide (x r i = D i)) n (by omega) i hi
    simpa using this
end

/-- What nodes think behind so many rounds. -/
def rounds (t : Nat) (a b c : Nat → Int) (m : Nat) (d : Nat → Int) : Nat → Nat → Int
  | 0 => d
  | r + 1 => roundTo t a b c (rounds t a b c m d r) m

/-- What all think in the end. -/
def endF (t : Nat) (a b c : Nat → Int) (m : Nat) : Nat → Int := rounds t a b c m (startF t) 16

section
variable {n m t : Nat} {a b c d : Nat → Int}
theorem rounds_round (hr : Right n m a b c) (d : Nat → Int) (r : Nat) : IsRound n t (Edge m a b c) (rounds t a b c m d r) (rounds t a b c m d (r + 1)) := roundTo_round hr
theorem rounds_ranged (hr : Right n m a b c) (hd : RangedV n d) : ∀ r, RangedV n (rounds t a b c m d r)
  | 0 => hd
  | r + 1 => (rounds_round hr d r).ranged (edge_good hr) (rounds_ranged hr hd r)
theorem end_fixed (hr : Right n m a b c) : IsRound n t (Edge m a b c) (endF t a b c m) (endF t a b c m) :=
  fixed_sixteen (edge_good hr) (rounds t a b c m (startF t)) (rounds_round hr _) fun _ _ => rfl
theorem end_ranged (hr : Right n m a b c) : RangedV n (endF t a b c m) := rounds_ranged hr (startF_ranged t n) 16
theorem end_fewer (hr : Right n m a b c) (ht : t < n) {r : Nat} (h : n ≤ r + 1) : ∀ i, i < n → rounds t a b c m (startF t) r i = endF t a b c m i :=
  fixed_fewer (edge_good hr) ht (end_fixed hr) (end_ranged hr) (rounds t a b c m (startF t)) (rounds_round hr _) (fun _ _ => rfl) r h
theorem end_seventeen (hr : Right n m a b c) (hd : RangedV n d) {r : Nat} (h : 17 ≤ r) : ∀ i, i < n → rounds t a b c m d r i = endF t a b c m i :=
  fixed_seventeen (edge_good hr) (end_fixed hr) (end_ranged hr) (rounds t a b c m d) (rounds_round hr _) (fun i hi => (hd i hi).1) r h
/-- Whatever another round does not change is what all think in the end. -/
theorem end_only (hr : Right n m a b c) (hd : RangedV n d) (h : ∀ i, i < n → roundTo t a b c d m i = d i) : ∀ i, i < n → d i = endF t a b c m i := by
  have h1 : IsRound n t (Edge m a b c) d d := fun i hi => by
    have := roundTo_round (t := t) (d := d) hr i hi
    rw [h i hi] at this
    exact this
  intro i hi
  rw [← end_seventeen hr (startF_ranged t n) (Nat.le_refl 17) i hi]
  exact (fixed_seventeen (edge_good hr) h1 hd (rounds t a b c m (startF t)) (rounds_round hr _) (fun i hi => (startF_ranged t n i hi).1) 17 (Nat.le_refl _) i hi).symm
theorem end_stays (hr : Right n m a b c) (h : ∀ i, i < n → d i = endF t a b c m i) : ∀ i, i < n → roundTo t a b c d m i = d i := by
  intro i hi
  rw [h i hi]
  exact IsRound.eq (edge_good hr) (roundTo_round hr) (end_fixed hr) h i hi
theorem round_mono (hr : Right n m a b c) {d d' : Nat → Int} (h : ∀ i, i < n → d i ≤ d' i) : ∀ i, i < n → roundTo t a b c d m i ≤ roundTo t a b c d' m i :=
  IsRound.mono (edge_good hr) (roundTo_round hr) (roundTo_round hr) h
theorem rounds_falls (hr : Right n m a b c) (r i : Nat) (hi : i < n) : rounds t a b c m (startF t) (r + 1) i ≤ rounds t a b c m (startF t) r i :=
  falls (edge_good hr) (rounds t a b c m (startF t)) (rounds_round hr _) (fun _ _ => rfl) r i hi
end

theorem good_nat {x : Int} {m : Nat} {a b c : Nat → Int} (h : GoodG x m a b c) : ∃ n : Nat, x = n ∧ 1 ≤ n ∧ n ≤ 8 ∧ Right n m a b c := by
  obtain ⟨h1, h8, hr⟩ := h
  exact ⟨x.toNat, by omega, by omega, by omega, hr⟩

end Go.Proofs.YtminfghiejgieaaDoor

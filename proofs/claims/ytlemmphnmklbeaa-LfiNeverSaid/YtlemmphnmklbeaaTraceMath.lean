/- A parcel on its way: plain laws. -/
import Derived.Test.YtlemmphnmklbeaaMem
import Derived.Test.YtlemmphnmklbeaaPlain
namespace Go.Proofs.Ytlemmphnmklbeaa
set_option linter.unusedVariables false

/-- Where the parcel is behind so many steps. -/
def posT (f : Nat → Nat → Int) (x y : Nat) : Nat → Int
  | 0 => x
  | k + 1 => if posT f x y k < 0 then posT f x y k else f (posT f x y k).toNat y

/-- What becomes of it, from the k-th step on. -/
def trGo (p : Nat → Int) (y : Int) (t : Nat) : Nat → Nat → Except Int Nat
  | 0, _ => .error 4
  | q + 1, k => if p k = y then .ok k else if p (k + 1) < 0 then .error 2 else if t ≤ k then .error 4 else trGo p y t q (k + 1)

/-- What becomes of it. -/
def trRes (f : Nat → Nat → Int) (x y t : Nat) : Except Int Nat := trGo (posT f x y) y t (t + 1) 0

/-- A row of next ones that is right. -/
def RowOk (n : Nat) (L : Nat → Nat) (f : Nat → Nat → Int) (i : Nat) : Prop := L i = n ∧ ∀ k, k < n → -1 ≤ f i k ∧ f i k < n

/-- What is right of a parcel. -/
def ArgsOk (n : Nat) (x y t : Int) : Prop := 0 ≤ x ∧ x < n ∧ 0 ≤ y ∧ y < n ∧ 0 ≤ t ∧ t ≤ 255

def GoodT (n : Nat) (L : Nat → Nat) (f : Nat → Nat → Int) (x y t : Int) : Prop := (∀ i, i < n → RowOk n L f i) ∧ ArgsOk n x y t

/-- Row i is the first that is wrong, and so. -/
def RowBad (n : Nat) (L : Nat → Nat) (f : Nat → Nat → Int) (i : Nat) (v : Int) : Prop := (L i ≠ n ∧ v = 3) ∨ (L i = n ∧ v = 1 ∧ ∃ k, k < n ∧ (∀ j, j < k → -1 ≤ f i j ∧ f i j < n) ∧ (f i k < -1 ∨ (n : Int) ≤ f i k))

def FaultT (n : Nat) (L : Nat → Nat) (f : Nat → Nat → Int) (x y t : Int) (v : Int) : Prop :=
  (∃ i, i < n ∧ (∀ j, j < i → RowOk n L f j) ∧ RowBad n L f i v) ∨ ((∀ i, i < n → RowOk n L f i) ∧ ¬ ArgsOk n x y t ∧ v = 1)

/-- The first that is not so. -/
theorem first_not (P : Nat → Prop) : ∀ n, (∀ i, i < n → P i) ∨ ∃ i, i < n ∧ (∀ j, j < i → P j) ∧ ¬ P i
  | 0 => .inl fun i hi => absurd hi (by omega)
  | n + 1 => by
    rcases first_not P n with h | ⟨i, hi, h⟩
    · by_cases hp : P n
      · refine .inl fun i hi => ?_
        rcases Nat.lt_or_ge i n with hlt | hge
        · exact h i hlt
        · obtain rfl : i = n := by omega
          exact hp
      · exact .inr ⟨n, by omega, h, hp⟩
    · exact .inr ⟨i, by omega, h⟩

theorem trace_cases (n : Nat) (L : Nat → Nat) (f : Nat → Nat → Int) (x y t : Int) : GoodT n L f x y t ∨ ∃ v, (v = 1 ∨ v = 3) ∧ FaultT n L f x y t v := by
  rcases first_not (RowOk n L f) n with h | ⟨i, hi, hj, hb⟩
  · by_cases ha : ArgsOk n x y t
    · exact .inl ⟨h, ha⟩
    · exact .inr ⟨1, .inl rfl, .inr ⟨h, ha, rfl⟩⟩
  · by_cases hl : L i = n
    · rcases first_not (fun k => -1 ≤ f i k ∧ f i k < n) n with h' | ⟨k, hk, hk', hbk⟩
      · exact absurd ⟨hl, h'⟩ hb
      · exact .inr ⟨1, .inl rfl, .inl ⟨i, hi, hj, .inr ⟨hl, rfl, k, hk, hk', by omega⟩⟩⟩
    · exact .inr ⟨3, .inr rfl, .inl ⟨i, hi, hj, .inl ⟨hl, rfl⟩⟩⟩

section
variable {p : Nat → Int} {y : Int} {t : Nat}
theorem trGo_here {q k : Nat} (h : p k = y) : trGo p y t (q + 1) k = .ok k := by unfold trGo; rw [if_pos h]
theorem trGo_none {q k : Nat} (h : p k ≠ y) (h1 : p (k + 1) < 0) : trGo p y t (q + 1) k = .error 2 := by unfold trGo; rw [if_neg h, if_pos h1]
theorem trGo_full {q k : Nat} (h : p k ≠ y) (h1 : ¬ p (k + 1) < 0) (h2 : t ≤ k) : trGo p y t (q + 1) k = .error 4 := by unfold trGo; rw [if_neg h, if_neg h1, if_pos h2]
theorem trGo_next {q k : Nat} (h : p k ≠ y) (h1 : ¬ p (k + 1) < 0) (h2 : ¬ t ≤ k) : trGo p y t (q + 1) k = trGo p y t q (k + 1) := by
  show (if p k = y then Except.ok k else if p (k + 1) < 0 then .error 2 else if t ≤ k then .error 4 else trGo p y t q (k + 1)) = _
  rw [if_neg h, if_neg h1, if_neg h2]

/-- It comes there: it is there behind k steps, and not ahead; it never fell out. -/
theorem trGo_ok : ∀ (q k m : Nat), trGo p y t q k = .ok m → k ≤ m ∧ p m = y ∧ (∀ j, k ≤ j → j < m → p j ≠ y ∧ 0 ≤ p (j + 1)) ∧ (k ≤ t → m ≤ t)
  | 0, k, m, h => by cases h
  | q + 1, k, m, h => by
    by_cases h0 : p k = y
    · rw [trGo_here h0] at h
      injection h with h
      subst h
      exact ⟨Nat.le_refl _, h0, fun j h1 h2 => by omega, fun h => h⟩
    · by_cases h1 : p (k + 1) < 0
      · rw [trGo_none h0 h1] at h; cases h
      · by_cases h2 : t ≤ k
        · rw [trGo_full h0 h1 h2] at h; cases h
        · rw [trGo_next h0 h1 h2] at h
          obtain ⟨a, b, c, d⟩ := trGo_ok q (k + 1) m h
          refine ⟨by omega, b, fun j hj hjm => ?_, fun _ => d (by omega)⟩
          rcases Nat.lt_or_ge k j with hlt | hge
          · exact c j hlt hjm
          · obtain rfl : j = k := by omega
            exact ⟨h0, by omega⟩

/-- Too many steps: none of the first ones was there, none fell out. -/
theorem trGo_err4 : ∀ (q k : Nat), t + 1 ≤ q + k → k ≤ t → trGo p y t q k = .error 4 → ∀ j, k ≤ j → j ≤ t → p j ≠ y ∧ 0 ≤ p (j + 1)
  | 0, k, hq, hk, _ => by omega
  | q + 1, k, hq, hk, h => by
    by_cases h0 : p k = y
    · rw [trGo_here h0] at h; cases h
    · by_cases h1 : p (k + 1) < 0
      · rw [trGo_none h0 h1] at h
        injection h with h
        omega
      · intro j hj hjt
        by_cases h2 : t ≤ k
        · obtain rfl : j = k := by omega
          exact ⟨h0, by omega⟩
        · rw [trGo_next h0 h1 h2] at h
          rcases Nat.lt_or_ge k j with hlt | hge
          · exact trGo_err4 q (k + 1) (by omega) (by omega) h j hlt hjt
          · obtain rfl : j = k := by omega
            exact ⟨h0, by omega⟩

theorem trGo_of_ok {m : Nat} : ∀ (q k : Nat), k ≤ m → m ≤ t → t + 1 ≤ q + k → p m = y → (∀ j, k ≤ j → j < m → p j ≠ y ∧ 0 ≤ p (j + 1)) → trGo p y t q k = .ok m
  | 0, k, h1, h2, h3, _, _ => by omega
  | q + 1, k, h1, h2, h3, h4, h5 => by
    rcases Nat.lt_or_ge k m with hlt | hge
    · obtain ⟨a, b⟩ := h5 k (Nat.le_refl _) hlt
      rw [trGo_next a (by omega) (by omega)]
      exact trGo_of_ok q (k + 1) hlt h2 (by omega) h4 fun j hj hjm => h5 j (by omega) hjm
    · obtain rfl : k = m := by omega
      exact trGo_here h4

theorem trGo_of_err4 : ∀ (q k : Nat), k ≤ t → t + 1 ≤ q + k → (∀ j, k ≤ j → j ≤ t → p j ≠ y ∧ 0 ≤ p (j + 1)) → trGo p y t q k = .error 4
  | 0, k, h1, h2, _ => by omega
  | q + 1, k, h1, h2, h3 => by
    obtain ⟨a, b⟩ := h3 k (Nat.le_refl _) h1
    by_cases h : t ≤ k
    · exact trGo_full a (by omega) h
    · rw [trGo_next a (by omega) h]
      exact trGo_of_err4 q (k + 1) (by omega) (by omega) fun j hj hjt => h3 j (by omega) hjt
end

section
variable {n : Nat} {L : Nat → Nat} {f : Nat → Nat → Int} {x y : Nat}
/-- From the same place on it goes the same way. -/
theorem posT_again {i j : Nat} (h : posT f x y i = posT f x y j) : ∀ s, posT f x y (i + s) = posT f x y (j + s)
  | 0 => h
  | s + 1 => by
    have ih := posT_again h s
    show (if posT f x y (i + s) < 0 then posT f x y (i + s) else f (posT f x y (i + s)).toNat y) = if posT f x y (j + s) < 0 then posT f x y (j + s) else f (posT f x y (j + s)).toNat y
    rw [ih]

theorem posT_lt (hr : ∀ i, i < n → RowOk n L f i) (hx : x < n) (hy : y < n) : ∀ k, posT f x y k < n
  | 0 => by show (x : Int) < n; omega
  | k + 1 => by
    have ih := posT_lt hr hx hy k
    show (if posT f x y k < 0 then posT f x y k else f (posT f x y k).toNat y) < n
    by_cases h : posT f x y k < 0
    · rw [if_pos h]; omega
    · rw [if_neg h]
      exact ((hr _ (by omega)).2 y hy).2

/-- Who comes there was nowhere twice. -/
theorem posT_once {m : Nat} (hm : posT f x y m = y) (hn : ∀ j, j < m → posT f x y j ≠ y) {i j : Nat} (hij : i < j) (hj : j ≤ m) : posT f x y i ≠ posT f x y j := by
  intro e
  have h := posT_again e (m - j)
  rw [show j + (m - j) = m by omega] at h
  exact hn (i + (m - j)) (by omega) (h.trans hm)

/-- Who was not there behind as many steps as there are nodes never is. -/
theorem posT_never (hr : ∀ i, i < n → RowOk n L f i) (hx : x < n) (hy : y < n) {t : Nat} (ht : n ≤ t) (h : ∀ j, j ≤ t → posT f x y j ≠ y ∧ 0 ≤ posT f x y (j + 1)) : ∀ j, posT f x y j ≠ y ∧ 0 ≤ posT f x y (j + 1) := by
  have h0 : ∀ j, j ≤ t → 0 ≤ posT f x y j := fun j hj => by
    cases j with
    | zero => show (0 : Int) ≤ x; omega
    | succ j => exact (h j (by omega)).2
  -- two of the first n + 1 places are the same
  have hrep : ∃ i j, i < j ∧ j ≤ n ∧ posT f x y i = posT f x y j := by
    refine Classical.byContradiction fun hno => ?_
    have hp := pigeon n (n + 1) (fun k => (posT f x y k).toNat) (fun k hk => by
      have h1 := posT_lt hr hx hy k
      have h2 := h0 k (by omega)
      show (posT f x y k).toNat < n
      omega) fun i j hi hj e => by
        have h1 := h0 i (by omega)
        have h2 := h0 j (by omega)
        have e' : (posT f x y i).toNat = (posT f x y j).toNat := e
        have e2 : posT f x y i = posT f x y j := by omega
        rcases Nat.lt_trichotomy i j with hlt | he | hlt
        · exact absurd ⟨i, j, hlt, by omega, e2⟩ hno
        · exact he
        · exact absurd ⟨j, i, hlt, by omega, e2.symm⟩ hno
    omega
  obtain ⟨i, j, hij, hjn, e⟩ := hrep
  -- each later place is one of those from i to j
  have hback : ∀ N s, s ≤ N → ∃ r, r ≤ j ∧ posT f x y r = posT f x y s := by
    intro N
    induction N with
    | zero => intro s hs; exact ⟨0, by omega, by rw [show s = 0 by omega]⟩
    | succ N ih =>
      intro s hs
      rcases Nat.lt_or_ge j s with hlt | hge
      · obtain ⟨r, hr', e'⟩ := ih (i + (s - j)) (by omega)
        refine ⟨r, hr', e'.trans ?_⟩
        have := posT_again e (s - j)
        rwa [show j + (s - j) = s by omega] at this
      · exact ⟨s, hge, rfl⟩
  intro s
  obtain ⟨r, hr1, e1⟩ := hback s s (Nat.le_refl _)
  have h1 := h r (by omega)
  refine ⟨by rw [← e1]; exact h1.1, ?_⟩
  have := posT_again e1 1
  rw [← this]
  exact h1.2
end

end Go.Proofs.Ytlemmphnmklbeaa

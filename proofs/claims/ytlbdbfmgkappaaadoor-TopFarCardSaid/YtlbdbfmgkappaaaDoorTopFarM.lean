/- TopFarM: in one text: MatMul, MatLaw, StarMath, Star, Nearest, LineIt, AsyncEnd, TopMem, SpfBell, TopFar. -/
import Derived.Test.YtlbdbfmgkappaaaDoorMatOne
import Derived.Test.YtlbdbfmgkappaaaDoorTabAt
import Derived.Test.YtlbdbfmgkappaaaDoorSpfFar
import Derived.Test.YtlbdbfmgkappaaaDoorBellFixed
import Derived.Test.YtlbdbfmgkappaaaDoorInts
import Derived.Test.YtlbdbfmgkappaaaDoorLineMath
import Derived.Test.YtlbdbfmgkappaaaDoorAsync
import Derived.Test.YtlbdbfmgkappaaaDoorOwnLk
/- The walk of mat.Mul. -/
namespace Go.Proofs.YtlbdbfmgkappaaaDoor
open Go.RowKit
set_option linter.unusedVariables false

/-- The least of 16 and of what F tells of the first n. -/
def minTo (n : Nat) (F : Nat → Int) : Int :=
  match n with
  | 0 => 16
  | n + 1 => min (minTo n F) (F n)

/-- Two tables, one after the other. -/
def mulF (n : Nat) (a b : Nat → Nat → Int) (i k : Nat) : Int := minTo n fun j => a i j + b j k

theorem Mat.some_ {w : World} {A : Option Addr} {n : Nat} {L : Nat → Nat} {f : Nat → Nat → Int} (h1 : 1 ≤ n) (h : Mat w A n L f) : ∃ ad, A = some ad := by
  obtain ⟨ad, _, _, e, _⟩ := h 0 (by omega)
  exact ⟨ad, e⟩

theorem Mat.sq {w : World} {ad : Addr} {n : Nat} {f : Nat → Nat → Int} (h1 : 1 ≤ n) (h : Mat w (some ad) n (fun _ => n) f) (i : Nat) (hi : i < n) :
    ∃ Ai ci, (w.cell? (ad.add i) = some (.slice (some Ai) n ci) ∧ ad.block < w.heap.size) ∧ Ai.block < w.heap.size ∧ ∀ j, j < n → w.cell? (Ai.add j) = some (.int .i64 (f i j)) := by
  obtain ⟨ad', Ai, ci, e, hlt, hc, hv⟩ := h i hi
  injection e with e
  subst e
  have hv : Vec w Ai n (f i) := hv
  obtain ⟨Ai', rfl, hl, _⟩ := hv 0 (by omega)
  refine ⟨Ai', ci, ⟨hc, hlt⟩, hl, fun j hj => ?_⟩
  obtain ⟨a', e, hl', hc'⟩ := hv j hj
  injection e with e
  subst e
  exact hc'

attribute [local go_sem high] run_min_pair

/-- A table that passes. -/
def Good (n : Nat) (L : Nat → Nat) (f : Nat → Nat → Int) : Prop := Square n L ∧ Ranged n f

open Classical in
/-- What is wrong with a table that does not. -/
noncomputable def fault (n : Nat) (L : Nat → Nat) (f : Nat → Nat → Int) : Int := if Square n L then 1 else 3

theorem matCheck_bad (A : Option Addr) (n c : Nat) (L : Nat → Nat) (f : Nat → Nat → Int) (w : World) (hm : Mat w A n L f) (hn : n ≤ 9223372036854775807) (h : ¬ Good n L f) :
    Calls Tryd.prog 47 #[.slice A n c] w fun e w' => e = .returned (errNo (fault n L f)) ∧ Below w.heap.size w w' := by
  by_cases hs : Square n L
  · have hr : ¬ Ranged n f := fun hr => h ⟨hs, hr⟩
    have e : fault n L f = 1 := by unfold fault; rw [if_pos hs]
    rw [e]
    exact matCheck_range A n c f w (hs.mat hm) hs.1 hs.2.1 hr
  · have e : fault n L f = 3 := by unfold fault; rw [if_neg hs]
    rw [e]
    exact matCheck_form A n c L f w hm hn hs

theorem matCheck_good (A : Option Addr) (n c : Nat) (L : Nat → Nat) (f : Nat → Nat → Int) (w : World) (hm : Mat w A n L f) (h : Good n L f) :
    Calls Tryd.prog 47 #[.slice A n c] w fun e w' => e = .returned .nilIface ∧ Below w.heap.size w w' :=
  matCheck_ok A n c f w (h.1.mat hm) h.1.1 h.1.2.1 h.2

end Go.Proofs.YtlbdbfmgkappaaaDoor

/- What two tables, one after the other, come to: plain laws. -/
namespace Go.Proofs.YtlbdbfmgkappaaaDoor
set_option linter.unusedVariables false

theorem minTo_le16 (n : Nat) (F : Nat → Int) : minTo n F ≤ 16 := by
  induction n with
  | zero => exact Int.le_refl _
  | succ n ih => unfold minTo; omega

theorem minTo_le {n : Nat} {F : Nat → Int} {j : Nat} (hj : j < n) : minTo n F ≤ F j := by
  induction n with
  | zero => omega
  | succ n ih =>
    unfold minTo
    rcases Nat.lt_or_ge j n with h | h
    · have := ih h; omega
    · obtain rfl : j = n := by omega
      omega

theorem le_minTo {n : Nat} {F : Nat → Int} {c : Int} (hc : c ≤ 16) (h : ∀ j, j < n → c ≤ F j) : c ≤ minTo n F := by
  induction n with
  | zero => exact hc
  | succ n ih =>
    unfold minTo
    have h1 := ih fun j hj => h j (by omega)
    have h2 := h n (by omega)
    omega

theorem minTo_cases (n : Nat) (F : Nat → Int) : minTo n F = 16 ∨ ∃ j, j < n ∧ minTo n F = F j := by
  induction n with
  | zero => exact .inl rfl
  | succ n ih =>
    unfold minTo
    by_cases hlt : minTo n F ≤ F n
    · have e : min (minTo n F) (F n) = minTo n F := by omega
      rw [e]
      rcases ih with h | ⟨j, hj, h⟩
      · exact .inl h
      · exact .inr ⟨j, by omega, h⟩
    · exact .inr ⟨n, by omega, by omega⟩

theorem Ranged.mul {n : Nat} {a b : Nat → Nat → Int} (ha : Ranged n a) (hb : Ranged n b) : Ranged n (mulF n a b) := fun i k hi hk =>
  ⟨le_minTo (by omega) fun j hj => by have := ha i j hi hj; have := hb j k hj hk; omega, minTo_le16 _ _⟩

theorem Ranged.one (n : Nat) : Ranged n oneF := fun i k _ _ => by
  unfold oneF
  by_cases h : i = k
  · rw [if_pos h]; omega
  · rw [if_neg h]; omega

theorem Good.mk' {n : Nat} {f : Nat → Nat → Int} (h1 : 1 ≤ n) (h8 : n ≤ 8) (h : Ranged n f) : Good n (fun _ => n) f := ⟨⟨h1, h8, fun _ _ => rfl⟩, h⟩

theorem mul_assoc_ {n : Nat} {a b c : Nat → Nat → Int} (ha : Ranged n a) (hb : Ranged n b) (hc : Ranged n c) {i k : Nat} (hi : i < n) (hk : k < n) :
    mulF n (mulF n a b) c i k = mulF n a (mulF n b c) i k := by
  apply Int.le_antisymm
  · refine le_minTo (minTo_le16 _ _) fun p hp => ?_
    show mulF n (mulF n a b) c i k ≤ a i p + mulF n b c p k
    have h0 := ha i p hi hp
    rcases minTo_cases n (fun j => b p j + c j k) with h | ⟨j, hj, h⟩
    · have h1 : mulF n b c p k = 16 := h
      have h2 : mulF n (mulF n a b) c i k ≤ 16 := minTo_le16 _ _
      omega
    · have h1 : mulF n b c p k = b p j + c j k := h
      have h2 : mulF n (mulF n a b) c i k ≤ mulF n a b i j + c j k := minTo_le (F := fun j => mulF n a b i j + c j k) hj
      have h3 : mulF n a b i j ≤ a i p + b p j := minTo_le (F := fun p => a i p + b p j) hp
      omega
  · refine le_minTo (minTo_le16 _ _) fun j hj => ?_
    show mulF n a (mulF n b c) i k ≤ mulF n a b i j + c j k
    have h0 := hc j k hj hk
    rcases minTo_cases n (fun p => a i p + b p j) with h | ⟨p, hp, h⟩
    · have h1 : mulF n a b i j = 16 := h
      have h2 : mulF n a (mulF n b c) i k ≤ 16 := minTo_le16 _ _
      omega
    · have h1 : mulF n a b i j = a i p + b p j := h
      have h2 : mulF n a (mulF n b c) i k ≤ a i p + mulF n b c p k := minTo_le (F := fun p => a i p + mulF n b c p k) hp
      have h3 : mulF n b c p k ≤ b p j + c j k := minTo_le (F := fun j => b p j + c j k) hj
      omega

theorem one_mul_ {n : Nat} {a : Nat → Nat → Int} (ha : Ranged n a) {i k : Nat} (hi : i < n) (hk : k < n) : mulF n oneF a i k = a i k := by
  apply Int.le_antisymm
  · have h : mulF n oneF a i k ≤ oneF i i + a i k := minTo_le (F := fun j => oneF i j + a j k) hi
    simp [oneF] at h
    exact h
  · refine le_minTo (ha i k hi hk).2 fun j hj => ?_
    have h1 := ha i k hi hk
    have h2 := ha j k hj hk
    show a i k ≤ oneF i j + a j k
    unfold oneF
    by_cases e : i = j
    · subst e; rw [if_pos rfl]; omega
    · rw [if_neg e]; omega

theorem mul_one_ {n : Nat} {a : Nat → Nat → Int} (ha : Ranged n a) {i k : Nat} (hi : i < n) (hk : k < n) : mulF n a oneF i k = a i k := by
  apply Int.le_antisymm
  · have h : mulF n a oneF i k ≤ a i k + oneF k k := minTo_le (F := fun j => a i j + oneF j k) hk
    simp [oneF] at h
    exact h
  · refine le_minTo (ha i k hi hk).2 fun j hj => ?_
    have h1 := ha i k hi hk
    have h2 := ha i j hi hj
    show a i k ≤ a i j + oneF j k
    unfold oneF
    by_cases e : j = k
    · subst e; rw [if_pos rfl]; omega
    · rw [if_neg e]; omega

end Go.Proofs.YtlbdbfmgkappaaaDoor

/- The star of a table: over one node after the other. Plain laws. -/
namespace Go.Proofs.YtlbdbfmgkappaaaDoor
set_option linter.unusedVariables false

/-- The table with no way from a node to itself longer than none. -/
def zeroF (a : Nat → Nat → Int) (i k : Nat) : Int := if i = k then 0 else a i k

/-- Over node j too. -/
def overF (f : Nat → Nat → Int) (j i k : Nat) : Int := min (f i k) (f i j + f j k)

/-- Over the first j nodes. -/
def starTo (a : Nat → Nat → Int) : Nat → Nat → Nat → Int
  | 0 => zeroF a
  | j + 1 => overF (starTo a j) j

/-- The star. -/
def starF (n : Nat) (a : Nat → Nat → Int) : Nat → Nat → Int := starTo a n

/-- Steps by the table, and what they come to. -/
inductive Steps (n : Nat) (a : Nat → Nat → Int) : Nat → Nat → Int → Prop
  | none (i : Nat) : i < n → Steps n a i i 0
  | more (i j k : Nat) (s : Int) : i < n → Steps n a j k s → Steps n a i k (a i j + s)

section
variable {n : Nat} {a : Nat → Nat → Int}
theorem Steps.fst {i k : Nat} {s : Int} (h : Steps n a i k s) : i < n := by cases h <;> assumption
theorem Steps.snd {i k : Nat} {s : Int} (h : Steps n a i k s) : k < n := by
  induction h with
  | none i h => exact h
  | more i j k s _ _ ih => exact ih
theorem Steps.join {i j k : Nat} {s t : Int} (h : Steps n a i j s) (h' : Steps n a j k t) : Steps n a i k (s + t) := by
  induction h with
  | none i _ => simpa using h'
  | more i p j s hi _ ih => rw [Int.add_assoc]; exact Steps.more _ _ _ _ hi (ih h')

theorem star_ranged (h : Ranged n a) : ∀ j, j ≤ n → Ranged n (starTo a j)
  | 0, _ => fun i k hi hk => by
    have := h i k hi hk
    show 0 ≤ zeroF a i k ∧ zeroF a i k ≤ 16
    unfold zeroF
    split <;> omega
  | j + 1, hj => fun i k hi hk => by
    have ih := star_ranged h j (by omega)
    have h0 := ih i k hi hk
    have h1 := ih i j hi (by omega)
    have h2 := ih j k (by omega) hk
    show 0 ≤ overF (starTo a j) j i k ∧ overF (starTo a j) j i k ≤ 16
    unfold overF
    omega

theorem star_diag (h : Ranged n a) : ∀ j, j ≤ n → ∀ i, i < n → starTo a j i i = 0
  | 0, _, i, hi => by show zeroF a i i = 0; unfold zeroF; rw [if_pos rfl]
  | j + 1, hj, i, hi => by
    have h0 := star_diag h j (by omega) i hi
    have h1 := star_ranged h j (by omega) i j hi (by omega)
    have h2 := star_ranged h j (by omega) j i (by omega) hi
    show overF (starTo a j) j i i = 0
    unfold overF
    omega

theorem star_falls (a : Nat → Nat → Int) (j i k : Nat) : starTo a (j + 1) i k ≤ starTo a j i k := by
  show overF (starTo a j) j i k ≤ starTo a j i k
  unfold overF
  omega

theorem star_table (h : Ranged n a) (i k : Nat) (hi : i < n) (hk : k < n) : ∀ j, starTo a j i k ≤ a i k
  | 0 => by
    have := h i k hi hk
    show zeroF a i k ≤ a i k
    unfold zeroF
    split <;> omega
  | j + 1 => by
    have := star_falls a j i k
    have := star_table h i k hi hk j
    omega

/-- Over each of the first j nodes there is no shorter way. -/
theorem star_over (h : Ranged n a) : ∀ j, j ≤ n → ∀ q, q < j → ∀ i k, i < n → k < n → starTo a j i k ≤ starTo a j i q + starTo a j q k
  | 0, _, q, hq, _, _, _, _ => absurd hq (by omega)
  | j + 1, hj, q, hq, i, k, hi, hk => by
    have hR := star_ranged h j (by omega)
    have hjj := star_diag h j (by omega) j (by omega)
    show overF (starTo a j) j i k ≤ overF (starTo a j) j i q + overF (starTo a j) j q k
    unfold overF
    have r1 := hR j k (by omega) hk
    have r2 := hR i j hi (by omega)
    by_cases e : q = j
    · subst e
      omega
    · have ih := star_over h j (by omega) q (by omega)
      have i1 := ih i k hi hk
      have i2 := ih i j hi (by omega)
      have i3 := ih j k (by omega) hk
      have r3 := hR j q (by omega) (by omega)
      have r4 := hR q j (by omega) (by omega)
      omega

theorem star_tri (h : Ranged n a) {i q k : Nat} (hi : i < n) (hq : q < n) (hk : k < n) : starF n a i k ≤ starF n a i q + starF n a q k :=
  star_over h n (Nat.le_refl _) q hq i k hi hk

/-- Each is what some steps come to. -/
theorem star_steps (h : Ranged n a) : ∀ j, j ≤ n → ∀ i k, i < n → k < n → Steps n a i k (starTo a j i k)
  | 0, _, i, k, hi, hk => by
    show Steps n a i k (zeroF a i k)
    unfold zeroF
    by_cases e : i = k
    · subst e
      rw [if_pos rfl]
      exact .none i hi
    · rw [if_neg e]
      have := Steps.more (a := a) i k k 0 hi (.none k hk)
      simpa using this
  | j + 1, hj, i, k, hi, hk => by
    have ih := star_steps h j (by omega)
    show Steps n a i k (overF (starTo a j) j i k)
    unfold overF
    rcases Int.le_total (starTo a j i k) (starTo a j i j + starTo a j j k) with hle | hle
    · rw [Int.min_eq_left hle]; exact ih i k hi hk
    · rw [Int.min_eq_right hle]; exact (ih i j hi (by omega)).join (ih j k (by omega) hk)

/-- No steps come to less. -/
theorem star_least (h : Ranged n a) {i k : Nat} {s : Int} (hs : Steps n a i k s) : starF n a i k ≤ s := by
  induction hs with
  | none i hi => exact Int.le_of_eq (star_diag h n (Nat.le_refl _) i hi)
  | more i j k s hi hs ih =>
    have h1 := star_tri h hi hs.fst hs.snd
    have h2 := star_table h i j hi hs.fst n
    have : starF n a i j = starTo a n i j := rfl
    omega

/-- KLEENE: a star is One, or one step and a star. -/
theorem star_one (h : Ranged n a) {i k : Nat} (hi : i < n) (hk : k < n) : starF n a i k = min (mulF n a (starF n a) i k) (oneF i k) := by
  have hR := star_ranged h n (Nat.le_refl _)
  have h16 := (hR i k hi hk).2
  have e : starF n a i k = starTo a n i k := rfl
  apply Int.le_antisymm
  · have h1 : starF n a i k ≤ mulF n a (starF n a) i k := le_minTo (by omega) fun j hj => by
      have h1 := star_tri h hi hj hk
      have h2 := star_table h i j hi hj n
      have e : starF n a i j = starTo a n i j := rfl
      show starF n a i k ≤ a i j + starF n a j k
      omega
    have h2 : starF n a i k ≤ oneF i k := by
      unfold oneF
      by_cases e : i = k
      · subst e
        rw [if_pos rfl]
        exact Int.le_of_eq (star_diag h n (Nat.le_refl _) i hi)
      · rw [if_neg e]; omega
    omega
  · have hs := star_steps h n (Nat.le_refl _) i k hi hk
    have e : starTo a n i k = starF n a i k := rfl
    rw [e] at hs
    generalize hx : starF n a i k = x at hs
    cases hs with
    | none =>
      have : oneF i i = 0 := by unfold oneF; rw [if_pos rfl]
      omega
    | more _ j _ s _ hs =>
      have h1 : mulF n a (starF n a) i k ≤ a i j + starF n a j k := minTo_le hs.fst
      have h2 := star_least h hs
      omega

theorem star_twice (h : Ranged n a) : ∀ j, j ≤ n → ∀ i k, i < n → k < n → starTo (starF n a) j i k = starF n a i k
  | 0, _, i, k, hi, hk => by
    show zeroF (starF n a) i k = _
    unfold zeroF
    by_cases e : i = k
    · subst e
      rw [if_pos rfl]
      exact (star_diag h n (Nat.le_refl _) i hi).symm
    · rw [if_neg e]
  | j + 1, hj, i, k, hi, hk => by
    have ih := star_twice h j (by omega)
    show overF (starTo (starF n a) j) j i k = _
    unfold overF
    rw [ih i k hi hk, ih i j hi (by omega), ih j k (by omega) hk]
    have := star_tri h hi (show j < n by omega) hk
    omega

theorem star_idem (h : Ranged n a) {i k : Nat} (hi : i < n) (hk : k < n) : mulF n (starF n a) (starF n a) i k = starF n a i k := by
  have h16 := (star_ranged h n (Nat.le_refl _) i k hi hk).2
  have e : starF n a i k = starTo a n i k := rfl
  apply Int.le_antisymm
  · have h1 : mulF n (starF n a) (starF n a) i k ≤ starF n a i i + starF n a i k := minTo_le hi
    have h2 : starF n a i i = 0 := star_diag h n (Nat.le_refl _) i hi
    omega
  · exact le_minTo (by omega) fun j hj => star_tri h hi hj hk

/-- In the middle of a round over node j: the rows ahead of i are turned, of row i what is ahead of k. -/
def midF (f : Nat → Nat → Int) (j i k p q : Nat) : Int := if p < i ∨ (p = i ∧ q < k) then overF f j p q else f p q

theorem mid_row {f : Nat → Nat → Int} {j i k : Nat} (hR : Ranged n f) (hd : f j j = 0) (hj : j < n) {q : Nat} (hq : q < n) : midF f j i k j q = f j q := by
  unfold midF
  split
  · unfold overF
    have := hR j q hj hq
    omega
  · rfl
theorem mid_col {f : Nat → Nat → Int} {j i k : Nat} (hR : Ranged n f) (hd : f j j = 0) (hj : j < n) {p : Nat} (hp : p < n) : midF f j i k p j = f p j := by
  unfold midF
  split
  · unfold overF
    have := hR p j hp hj
    omega
  · rfl
theorem mid_start (f : Nat → Nat → Int) (j p q : Nat) : midF f j 0 0 p q = f p q := by unfold midF; rw [if_neg (by omega)]
theorem mid_next (f : Nat → Nat → Int) (j i p q : Nat) (hq : q < n) : midF f j i n p q = midF f j (i + 1) 0 p q := by
  unfold midF
  by_cases h : p < i + 1
  · rw [if_pos (by omega), if_pos (by omega)]
  · rw [if_neg (by omega), if_neg (by omega)]
theorem mid_end (f : Nat → Nat → Int) (j p q : Nat) (hp : p < n) : midF f j n 0 p q = overF f j p q := by unfold midF; rw [if_pos (by omega)]
end

end Go.Proofs.YtlbdbfmgkappaaaDoor

/- The walk of mat.Star. -/
namespace Go.Proofs.YtlbdbfmgkappaaaDoor
open Go.RowKit
set_option linter.unusedVariables false

theorem row_zero {w : World} {g n i : Nat} {a : Nat → Nat → Int} (h : RowP w g 3 n fun j => .int .i64 (a i j)) :
    RowP (w.setCell ⟨g, i, none⟩ (.int .i64 0)) g 3 n (fun j => .int .i64 (zeroF a i j)) := by
  refine (h.set i (.int .i64 0)).congr fun j hj => ?_
  unfold upd zeroF
  by_cases e : j = i
  · subst e; simp
  · rw [if_neg e, if_neg (fun h => e h.symm)]

theorem mid_set (F : Nat → Nat → Int) (j i k p q : Nat) : (if p = i ∧ q = k then overF F j i k else midF F j i k p q) = midF F j i (k + 1) p q := by
  unfold midF
  by_cases h : p = i ∧ q = k
  · obtain ⟨rfl, rfl⟩ := h
    rw [if_pos ⟨rfl, rfl⟩, if_pos (by omega)]
  · rw [if_neg h]
    by_cases h2 : p < i ∨ p = i ∧ q < k
    · rw [if_pos h2, if_pos (by omega)]
    · rw [if_neg h2, if_neg (by omega)]

theorem matStar_bad (A : Option Addr) (n c : Nat) (L : Nat → Nat) (f : Nat → Nat → Int) (w : World) (hm : Mat w A n L f) (hn : n ≤ 9223372036854775807) (h : ¬ Good n L f) :
    Calls Tryd.prog 9 #[.slice A n c] w fun e w' => e = .returned (.tuple #[.slice none 0 0, errNo (fault n L f)]) ∧ Below w.heap.size w w' := by
  have HA := Lib.hid hm
  have HN := Lib.hid h
  clear hm h
  go_enter Tryd.func9, Tryd.ntmps9
  go_wp2_with fail
  refine (matCheck_bad A n c L f w HA.out hn HN.out).mono ?_
  rintro e w1 ⟨rfl, hb1⟩
  go_wp2_with fail
  go_ret2
  exact ⟨rfl, hb1⟩

attribute [local go_sem high] run_min_pair

set_option maxRecDepth 100000 in
set_option maxHeartbeats 4000000 in
theorem matStar_ok (A : Option Addr) (n c : Nat) (L : Nat → Nat) (a : Nat → Nat → Int) (w : World) (hm : Mat w A n L a) (hg : Good n L a) :
    Calls Tryd.prog 9 #[.slice A n c] w fun e w' => ∃ D c', e = .returned (.tuple #[.slice D n c', .nilIface]) ∧ Mat w' D n (fun _ => n) (starF n a) ∧ Below w.heap.size w w' := by
  obtain ⟨ad, rfl⟩ := hm.some_ hg.1.1
  have h1 := hg.1.1
  have h8 := hg.1.2.1
  have h1' : (1 : Int) ≤ n := by omega
  have h8' : (n : Int) ≤ 8 := by omega
  have HA := Lib.hid (hg.1.mat hm)
  have HM := Lib.hid hm
  have HG := Lib.hid hg
  clear hm hg
  go_enter Tryd.func9, Tryd.ntmps9
  go_wp2_with fail
  refine (matCheck_good (some ad) n c L a w HM.out HG.out).mono ?_
  rintro e w1 ⟨rfl, hb1⟩
  have HB1 := Lib.hid hb1
  clear hb1
  go_wp2_with fail
  go_loopw [5, 19] (fun v i wr => ∃ r : Nat, r ≤ n ∧ i = .int .i64 r ∧ Tab wr w1.heap.size v r n (zeroF a) ∧ Below w1.heap.size w1 wr) (fun _ i _ => n - (intOf i).toNat)
  case atStart => exact ⟨0, by omega, rfl, Tab.nil _ _ _ _, Below.refl _ _⟩
  case round =>
    obtain ⟨r, hr, rfl, hT, hb⟩ := hrel
    have HT := Lib.hid hT
    have HB := Lib.hid hb
    clear hT hb
    by_cases hlt : r < n
    · have hlt' : (r : Int) < n := by omega
      have HBW := Lib.hid (keep HB1.out HB.out)
      obtain ⟨Ai, ci, hci, hAl, hvi⟩ := HA.out.sq h1 r hlt
      have hci := (HBW.out.cell (by rw [block_of_add]; exact hci.2)).trans hci.1
      have HV : Hid (Vec wr (some Ai) n (a r)) := fun j hj => ⟨Ai, rfl, Nat.lt_of_lt_of_le hAl HBW.out.size, (HBW.out.cell (by rw [block_of_add]; exact hAl)).trans (hvi j hj)⟩
      clear hvi hAl
      go_wp2_with fail
      have hcall := clone_ints (some Ai) n ci (a r) wr HV.out h1 (by omega)
      refine hcall.mono ?_
      clear hcall
      rintro e w2 ⟨g, cap, rfl, hgb, hrow, hb2⟩
      have hc1 := hrow.cell hlt
      have hz1 := hrow.frozen r
      have HR := Lib.hid (row_zero (i := r) hrow)
      have HGB := Lib.hid hgb
      have HB2 : Hid (Below wr.heap.size wr (w2.setCell ⟨g, r, none⟩ (.int .i64 0))) := hb2.setCell hgb _
      clear hrow hgb hb2 hci
      go_wp2_with (at_builtin; refine wpList_append_tab rfl (.tmp 29) (.tmp 31) rfl wr w1.heap.size _ r n (zeroF a) rfl HT.out (HB2.out.alloc HB2.out.size _) g cap HGB.out (HR.out.alloc _) _ rfl (cell_new_at _ _ _ (by simp [World.setCell])) (by omega) HB.out.size ?_)
      intro v3 w3 hT3 hb3
      have HT3 := Lib.hid hT3
      have HB3 : Hid (Below w1.heap.size w1 w3) := (HB.out.trans ((HB2.out.alloc HB2.out.size _).mono HB.out.size)).trans hb3
      clear hT3 hb3 hc1 hz1 HT HB HB2
      go_wp2_with fail
      go_roundw
      case rel => exact ⟨r + 1, by omega, by go_num, HT3.out, HB3.out⟩
      case measure => simp [intOf]; omega
    · have er : r = n := by omega
      subst er
      obtain ⟨B, C, hat⟩ := HT.out.at_
      obtain ⟨g, cg, rfl, hgb, hgl, hgc, hgn⟩ := hat.cells h1
      have HGB := Lib.hid hgb
      have HAT := Lib.hid hat
      have HBW := Lib.hid (keep HB1.out HB.out)
      have HRA := Lib.hid HG.out.2
      obtain ⟨w4, hw4⟩ : ∃ w4, w4 = wr := ⟨_, rfl⟩
      have HS : Hid (w1.heap.size ≤ wr.heap.size) := HB.out.size
      have HS1 : Hid (w.heap.size ≤ w1.heap.size) := HB1.out.size
      clear hat hgb hgl hgc hgn HT HB HB1 HA HM hw4
      go_wp2_with fail
      go_loopw [36] (fun i wj => ∃ j : Nat, j ≤ r ∧ i = .int .i64 j ∧ TabAt wj w1.heap.size (.slice (some ⟨g, 0, none⟩) r cg) B C r r (starTo a j) ∧ Below w.heap.size w wj) (fun i _ => r - (intOf i).toNat)
      case atStart => exact ⟨0, by omega, rfl, HAT.out, HBW.out⟩
      case round =>
        obtain ⟨j, hj, rfl, hat, hb⟩ := hrel
        obtain ⟨wo, rfl⟩ : ∃ wo : World, wo = wr := ⟨_, rfl⟩
        clear HAT HBW HS
        have HAT := Lib.hid hat
        have HB := Lib.hid hb
        clear hat hb
        by_cases hjl : j < r
        · have hjl' : (j : Int) < r := by omega
          have HF := Lib.hid (star_ranged HRA.out j (by omega))
          have HD := Lib.hid (star_diag HRA.out j (by omega) j hjl)
          go_wp2_with fail
          go_loopw [41] (fun i wi => ∃ p : Nat, p ≤ r ∧ i = .int .i64 p ∧ TabAt wi w1.heap.size (.slice (some ⟨g, 0, none⟩) r cg) B C r r (midF (starTo a j) j p 0) ∧ Below w.heap.size w wi) (fun i _ => r - (intOf i).toNat)
          case atStart => exact ⟨0, by omega, rfl, HAT.out.congr fun p q _ _ => (mid_start _ _ _ _).symm, HB.out⟩
          case round =>
            obtain ⟨p, hp, rfl, hat, hb⟩ := hrel
            obtain ⟨wi, rfl⟩ : ∃ wi : World, wi = wr := ⟨_, rfl⟩
            clear HAT HB
            have HAT := Lib.hid hat
            have HB := Lib.hid hb
            clear hat hb
            by_cases hpl : p < r
            · have hpl' : (p : Int) < r := by omega
              go_wp2_with fail
              go_loopw [46] (fun i wk => ∃ q : Nat, q ≤ r ∧ i = .int .i64 q ∧ TabAt wk w1.heap.size (.slice (some ⟨g, 0, none⟩) r cg) B C r r (midF (starTo a j) j p q) ∧ Below w.heap.size w wk) (fun i _ => r - (intOf i).toNat)
              case atStart => exact ⟨0, by omega, rfl, HAT.out, HB.out⟩
              case round =>
                obtain ⟨q, hq, rfl, hat, hb⟩ := hrel
                clear HAT HB
                have HAT := Lib.hid hat
                have HB := Lib.hid hb
                by_cases hql : q < r
                · have hql' : (q : Int) < r := by omega
                  obtain ⟨g', cg', e, -, -, hgc, -⟩ := hat.cells h1
                  have eg : g = g' := by
                    simp only [Value.slice.injEq, Option.some.injEq, Addr.mk.injEq] at e
                    exact e.1.1
                  subst eg
                  have hcp := hgc p hpl
                  have hcj := hgc j hjl
                  have hpq := (hat.row p hpl).2.cell hql
                  have hpj := (hat.row p hpl).2.cell hjl
                  have hjq := (hat.row j hjl).2.cell hql
                  have hfz := (hat.row p hpl).2.frozen q
                  have e1 : midF (starTo a j) j p q p q = starTo a j p q := by unfold midF; rw [if_neg (by omega)]
                  rw [e1] at hpq
                  rw [mid_col HF.out HD.out hjl hpl] at hpj
                  rw [mid_row HF.out HD.out hjl hql] at hjq
                  have r1 := HF.out p j hpl hjl
                  have r2 := HF.out j q hjl hql
                  have r10 := r1.1
                  have r11 := r1.2
                  have r20 := r2.1
                  have r21 := r2.2
                  have HX := Lib.hid ((hat.set hpl q (overF (starTo a j) j p q)).congr fun s t _ _ => mid_set _ _ _ _ _ _)
                  have HBX : Hid (Below w.heap.size w (wr.setCell ⟨B p, q, none⟩ (.int .i64 (overF (starTo a j) j p q)))) := hb.setCell (Nat.le_trans HS1.out (hat.row p hpl).1) _
                  clear hat hb hgc e r1 r2 e1
                  go_wp2_with fail
                  refine wp_region_quiet_tail 29 (by kernel_rfl) (by kernel_rfl) ?_
                  simp only [List.take_succ_cons, List.take_zero, List.drop_succ_cons, List.drop_zero]
                  repeat (go_big_quiet_step (fail))
                  refine wpQuiet_nil ?_
                  go_wp2_with fail
                  go_roundw
                  case rel => exact ⟨q + 1, by omega, by go_num, HX.out.drew, HBX.out.drew⟩
                  case measure => simp [intOf]; omega
                · have eq : q = r := by omega
                  subst eq
                  clear hat hb
                  go_wp2_with fail
                  go_roundw
                  case rel => exact ⟨p + 1, by omega, by go_num, HAT.out.congr fun s t _ ht => mid_next _ _ _ _ _ ht, HB.out⟩
                  case measure => simp [intOf]; omega
            · have ep : p = r := by omega
              subst ep
              go_wp2_with fail
              go_roundw
              case rel => exact ⟨j + 1, by omega, by go_num, HAT.out.congr fun s t hs _ => mid_end _ _ _ _ hs, HB.out⟩
              case measure => simp [intOf]; omega
        · have ej : j = r := by omega
          subst ej
          obtain ⟨g', cg', e, hM⟩ := HAT.out.tab.mat h1
          have eg : g = g' := by
            simp only [Value.slice.injEq, Option.some.injEq, Addr.mk.injEq] at e
            exact e.1.1
          subst eg
          have HM := Lib.hid hM
          clear hM e
          go_wp2_with fail
          go_ret2
          exact ⟨_, _, rfl, HM.out, HB.out⟩

end Go.Proofs.YtlbdbfmgkappaaaDoor

/- The fact of spf: nearest. -/
namespace Go.Proofs.YtlbdbfmgkappaaaDoor
open Go.RowKit
set_option linter.unusedVariables false

end Go.Proofs.YtlbdbfmgkappaaaDoor

/- A line's steps, one behind the other: plain laws. -/
namespace Go.Proofs.YtlbdbfmgkappaaaDoor
set_option linter.unusedVariables false

/-- What node i thinks of t behind r steps: how far, and by whom. -/
def lineS (po : Bool) (n : Nat) (K : Nat → Nat → Int) (S0 : Nat → Nat → Int × Int) : Nat → Nat → Nat → Int × Int
  | 0 => S0
  | r + 1 => fun i t => thinkF po n t K (fun k => (lineS po n K S0 r k t).1) (fun k => (lineS po n K S0 r k t).2) i

/-- Each knows itself alone. -/
def startS (i t : Nat) : Int × Int := (startF t i, -1)

section
variable {po : Bool} {n m : Nat} {K : Nat → Nat → Int} {S0 : Nat → Nat → Int × Int} {a b c : Nat → Int}
theorem lineS_step (r t : Nat) : StepR po n t K (fun k => (lineS po n K S0 r k t).1) (fun k => (lineS po n K S0 r k t).2) (fun k => (lineS po n K S0 (r + 1) k t).1) (fun k => (lineS po n K S0 (r + 1) k t).2) := think_step
theorem lineS_ranged (hK : CostM n K) (h0 : ∀ k t, k < n → t < n → 0 ≤ (S0 k t).1 ∧ (S0 k t).1 ≤ 16) : ∀ r k t, k < n → t < n → 0 ≤ (lineS po n K S0 r k t).1 ∧ (lineS po n K S0 r k t).1 ≤ 16
  | 0, k, t, hk, ht => h0 k t hk ht
  | r + 1, k, t, hk, ht => (lineS_step (po := po) (K := K) (S0 := S0) (n := n) r t).ranged hK (fun k hk => lineS_ranged hK h0 r k t hk ht) k hk
theorem startS_ranged : ∀ k t, k < n → t < n → 0 ≤ (startS k t).1 ∧ (startS k t).1 ≤ 16 := fun k t hk ht => startF_ranged t n k hk
theorem line_inv (hr : Right n m a b c) {t : Nat} (ht : t < n) : ∀ r, LineInv n (costF m a b c) (rounds t a b c m (startF t) r) (fun k => (lineS po n (costF m a b c) startS r k t).1) (fun k => (lineS po n (costF m a b c) startS r k t).2)
  | 0 => ⟨fun _ _ => rfl, fun k i _ _ h => by
    have h' : (-1 : Int) = (i : Int) := h
    omega⟩
  | r + 1 => (line_inv hr ht r).step (cost_m hr) ht (rounds_ranged hr (startF_ranged t n) r) (rounds_k hr _ r) (fun i hi => rounds_falls hr r i hi) (fun i hi => (rounds_ranged hr (startF_ranged t n) (r + 1) i hi).1) (lineS_step r t)

/-- Behind as many steps as there are nodes, less one, all is right. -/
theorem line_settled (hr : Right n m a b c) {N : Nat} (hN : n ≤ N + 1) {i k : Nat} (hi : i < n) (hk : k < n) :
    (lineS po n (costF m a b c) startS N i k).1 = endF i a b c m k ∧
      (((lineS po n (costF m a b c) startS N i k).2 = -1 ∧ (k = i ∨ ¬ endF i a b c m k < 16)) ∨
        ∃ p : Nat, p < n ∧ (lineS po n (costF m a b c) startS N i k).2 = (p : Int) ∧ p ≠ i ∧ k ≠ i ∧ endF i a b c m k < 16 ∧ 1 ≤ costF m a b c i p ∧ costF m a b c i p < 16 ∧ endF p a b c m k + costF m a b c i p = endF i a b c m k) := by
  have hK := cost_m hr
  have hD := far_end hr hk
  have hE : ∀ q, q < n → endF k a b c m q = endF q a b c m k := fun q hq => hD.back hK hk hq (far_end hr hq)
  have h1 : (lineS po n (costF m a b c) startS N i k).1 = endF k a b c m i := by
    rw [← end_fewer hr hk hN i hi]
    exact (line_inv (po := po) hr hk N).eq i hi
  refine ⟨h1.trans (hE i hi), ?_⟩
  cases N with
  | zero =>
    have e : k = i := by omega
    exact .inl ⟨rfl, .inl e⟩
  | succ N =>
    have hf : ∀ q, q < n → endF k a b c m q ≤ (lineS po n (costF m a b c) startS N q k).1 ∧ (lineS po n (costF m a b c) startS N q k).1 ≤ 16 := fun q hq => by
      refine ⟨?_, (lineS_ranged hK startS_ranged N q k hq hk).2⟩
      rw [(line_inv (po := po) hr hk N).eq q hq]
      exact fixed_below (edge_good hr) (end_fixed hr) (fun r => rounds k a b c m (startF k) r) (fun r => rounds_round hr _ r) (fun _ _ => rfl) N q hq
    obtain ⟨h2, h3⟩ := (lineS_step (po := po) (n := n) (K := costF m a b c) (S0 := startS) N k).leads hK hD hf hi h1
    have h2' := h2 _ rfl
    rcases h2' with h4 | ⟨p, hp, h4, h5, h6, h7, h8, h9⟩
    · refine .inl ⟨h4, ?_⟩
      rcases h3.1 h4 with h | h
      · exact .inl h.symm
      · right
        rw [← hE i hi]
        omega
    · refine .inr ⟨p, hp, h4, h5, fun e => h6 e.symm, by rw [← hE i hi]; exact h9, hK.low i p hi hp (fun e => h5 e.symm), h7, ?_⟩
      rw [← hE p hp, ← hE i hi]
      exact h8
end

end Go.Proofs.YtlbdbfmgkappaaaDoor

/- All come to it: what drains and tells do, told for the walk. -/
namespace Go.Proofs.YtlbdbfmgkappaaaDoor
open Go.RowKit
set_option linter.unusedVariables false

/-- The net is there, and its state is one of these. -/
def NetOk (w0 : World) (p0 n t : Nat) (K : Nat → Nat → Int) (D : Nat → Int) (wr : World) (F : AS → Prop) : Prop :=
  ∃ lab A s, A.p = p0 ∧ AN wr lab A n t K s ∧ AInv n t K D s ∧ (∀ b, b < w0.heap.size → lab b = []) ∧ Below w0.heap.size w0 wr ∧ F s

section
variable {w0 w w' : World} {p0 n t : Nat} {K : Nat → Nat → Int} {D : Nat → Int} {F G : AS → Prop}
theorem NetOk.imp (h : NetOk w0 p0 n t K D w F) (hi : ∀ s, AInv n t K D s → F s → G s) : NetOk w0 p0 n t K D w G := by
  obtain ⟨lab, A, s, h1, h2, h3, h4, h5, h6⟩ := h
  exact ⟨lab, A, s, h1, h2, h3, h4, h5, hi s h3 h6⟩
theorem NetOk.bel (h : NetOk w0 p0 n t K D w F) : Below w0.heap.size w0 w := by
  obtain ⟨lab, A, s, h1, h2, h3, h4, h5, h6⟩ := h
  exact h5
theorem NetOk.drewN (h : NetOk w0 p0 n t K D w F) (k : Nat) : NetOk w0 p0 n t K D (w.drewN k) F := by
  obtain ⟨lab, A, s, h1, h2, h3, h4, h5, h6⟩ := h
  exact ⟨lab, A, s, h1, h2.drewN k, h3, h4, below_drewN h5 k, h6⟩
theorem NetOk.below (h : NetOk w0 p0 n t K D w F) (hb : Below w.heap.size w w') : NetOk w0 p0 n t K D w' F := by
  obtain ⟨lab, A, s, h1, h2, h3, h4, h5, h6⟩ := h
  exact ⟨lab, A, s, h1, h2.below hb, h3, h4, keep h5 hb, h6⟩
theorem NetOk.send (h : NetOk w0 p0 n t K D w F) (h8 : n ≤ 8) (a b : Int) (hFG : ∀ s, AInv n t K D s → F s → G (s.send n K a b)) :
    Calls Tryd.prog 13 #[.pointer (some ⟨p0, 0, none⟩), .int .i64 a, .int .i64 b] w fun e w' => ∃ v, e = .returned v ∧ NetOk w0 p0 n t K D w' G := by
  obtain ⟨lab, A, s, rfl, h2, h3, h4, h5, h6⟩ := h
  refine (netSend a b h2 h3 h8).mono ?_
  rintro e w' ⟨v, he, lab', A', k1, k2, k3, k4⟩
  obtain ⟨k5, k6⟩ := k4.below h5.size h4
  exact ⟨v, he, lab', A', _, k1, k2, k3, k6, h5.trans k5, hFG s h3 h6⟩
theorem NetOk.take (h : NetOk w0 p0 n t K D w F) (h8 : n ≤ 8) (hK : CostM n K) (hR : RoundK n t K D D) (hD : ∀ i, i < n → 0 ≤ D i) (a b : Int) (hFG : ∀ s, AInv n t K D s → F s → (∀ i, i < n → (s.take n t K a b).f i ≤ s.f i) → G (s.take n t K a b)) :
    Calls Tryd.prog 14 #[.pointer (some ⟨p0, 0, none⟩), .int .i64 a, .int .i64 b] w fun e w' => ∃ v, e = .returned v ∧ NetOk w0 p0 n t K D w' G := by
  obtain ⟨lab, A, s, rfl, h2, h3, h4, h5, h6⟩ := h
  refine (netTake a b h2 h3 h8 hK hR hD).mono ?_
  rintro e w' ⟨v, he, lab', A', k1, k2, k3, k7, k4⟩
  obtain ⟨k5, k6⟩ := k4.below h5.size h4
  exact ⟨v, he, lab', A', _, k1, k2, k3, k6, h5.trans k5, hFG s h3 h6 k7⟩
/-- Where one value alone can be. -/
theorem NetOk.dist (h : NetOk w0 p0 n t K D w F) (h8 : n ≤ 8) (i : Nat) (z : Int) (hz : z = (i : Int)) (hi : i < n) (v : Int) (hv : ∀ s, AInv n t K D s → F s → s.f i = v) :
    Calls Tryd.prog 16 #[.pointer (some ⟨p0, 0, none⟩), .int .i64 z] w fun e w' => e = .returned (.tuple #[.int .i64 v, .nilIface]) ∧ w' = w := by
  obtain ⟨lab, A, s, rfl, h2, h3, h4, h5, h6⟩ := h
  have := netDist i z hz hi h2 h8
  rw [hv s h3 h6] at this
  exact this
end

/-- Before a pair, row by row. -/
def Ahd (a b x y : Nat) : Prop := x < a ∨ (x = a ∧ y < b)
/-- Two neighbours. -/
def Nbr (n : Nat) (K : Nat → Nat → Int) (x y : Nat) : Prop := x < n ∧ y < n ∧ x ≠ y ∧ K x y ≠ 16

/-- In the middle of a drain. -/
def PhiD (n : Nat) (K : Nat → Nat → Int) (X : Nat → Int) (r a b : Nat) (s : AS) : Prop :=
  (∀ i, i < n → s.f i ≤ X i) ∧ (1 ≤ r → ∀ x y, Nbr n K x y → s.newest x y ≤ X x) ∧ ∀ x y, Ahd a b x y → Nbr n K x y → s.q x y = []
def PhiE (n : Nat) (K : Nat → Nat → Int) (X : Nat → Int) (r a b k : Nat) (s : AS) : Prop := PhiD n K X r a b s ∧ (Nbr n K a b → (s.q a b).length ≤ 20 - k)
/-- In the middle of telling all. -/
def PhiS (n : Nat) (K : Nat → Nat → Int) (Y : Nat → Int) (a b : Nat) (s : AS) : Prop :=
  (∀ i, i < n → s.f i ≤ Y i) ∧ (∀ x y, Ahd a b x y → Nbr n K x y → s.newest x y ≤ Y x) ∧ ∀ x y, ¬ Ahd a b x y → Nbr n K x y → s.q x y = []
/-- At a round's head. -/
def PhiR (n : Nat) (K : Nat → Nat → Int) (X : Nat → Nat → Int) (r : Nat) (s : AS) : Prop :=
  (∀ i, i < n → s.f i ≤ X (r - 1) i) ∧ (1 ≤ r → ∀ x y, Nbr n K x y → s.newest x y ≤ X (r - 1) x)

section
variable {n t r a b k : Nat} {K : Nat → Nat → Int} {D X Y : Nat → Int} {Z : Nat → Nat → Int} {s : AS}
theorem PhiD.first (hI : AInv n t K D s) (h : PhiD n K X r a b s) : PhiE n K X r a b 0 s := ⟨h, fun hn => hI.few a b hn.1 hn.2.1⟩
theorem PhiE.take (hI : AInv n t K D s) (h : PhiE n K X r a b k s) (hf : ∀ i, i < n → (s.take n t K a b).f i ≤ s.f i) : PhiE n K X r a b (k + 1) (s.take n t K a b) := by
  obtain ⟨⟨h1, h2, h3⟩, h4⟩ := h
  refine ⟨⟨fun i hi => Int.le_trans (hf i hi) (h1 i hi), fun hr x y hn => by rw [newest_take]; exact h2 hr x y hn, fun x y hp hn => ?_⟩, fun hn => ?_⟩
  · rw [take_q (a := a) (b := b) x y s (by unfold Ahd at hp; omega)]
    exact h3 x y hp hn
  · rw [take_tail hn.1 hn.2.1 hn.2.2.1 hn.2.2.2]
    have := h4 hn
    omega
theorem PhiE.next (h : PhiE n K X r a b 20 s) : PhiD n K X r a (b + 1) s := by
  obtain ⟨⟨h1, h2, h3⟩, h4⟩ := h
  refine ⟨h1, h2, fun x y hp hn => ?_⟩
  by_cases e : x = a ∧ y = b
  · obtain ⟨rfl, rfl⟩ := e
    exact List.eq_nil_of_length_eq_zero (by have := h4 hn; omega)
  · exact h3 x y (by unfold Ahd at hp ⊢; omega) hn
theorem PhiD.row (h : PhiD n K X r a n s) : PhiD n K X r (a + 1) 0 s := by
  obtain ⟨h1, h2, h3⟩ := h
  refine ⟨h1, h2, fun x y hp hn => h3 x y ?_ hn⟩
  have := hn.2.1
  unfold Ahd at hp ⊢
  omega
theorem PhiR.drain (h : PhiR n K Z r s) : PhiD n K (Z (r - 1)) r 0 0 s := ⟨h.1, h.2, fun x y hp => by unfold Ahd at hp; omega⟩
theorem PhiD.all (hI : AInv n t K D s) (hK : CostM n K) (h : PhiD n K (Z (r - 1)) r n 0 s) (hZ : ∀ r, RoundK n t K (Z r) (Z (r + 1))) (h0 : ∀ r i, i < n → 0 ≤ Z r i) : PhiS n K (Z r) 0 0 s := by
  obtain ⟨h1, h2, h3⟩ := h
  have hq : ∀ x y, Nbr n K x y → s.q x y = [] := fun x y hn => h3 x y (.inl hn.1) hn
  refine ⟨?_, fun x y hp => by unfold Ahd at hp; omega, fun x y _ hn => hq x y hn⟩
  cases r with
  | zero => exact h1
  | succ r => exact hI.drained (X := Z r) (fun a b ha hb hne hk => ⟨hq a b ⟨ha, hb, hne, hk⟩, h2 (by omega) a b ⟨ha, hb, hne, hk⟩⟩) (fun i hi => h0 r i hi) hK (hZ r)
theorem PhiS.send (hI : AInv n t K D s) (ha : a < n) (hb : b < n) (h : PhiS n K Y a b s) : PhiS n K Y a (b + 1) (s.send n K a b) := by
  obtain ⟨h1, h2, h3⟩ := h
  refine ⟨fun i hi => by rw [send_f]; exact h1 i hi, fun x y hp hn => ?_, fun x y hp hn => ?_⟩
  · by_cases e : x = a ∧ y = b
    · obtain ⟨rfl, rfl⟩ := e
      have := h3 x y (by unfold Ahd; omega) hn
      rw [send_newest ha hb hn.2.2.1 hn.2.2.2 (by rw [this]; simp)]
      exact h1 x ha
    · exact Int.le_trans (newest_send hI a b hn.1 hn.2.1) (h2 x y (by unfold Ahd at hp ⊢; omega) hn)
  · rw [send_q (a := a) (b := b) x y s n K (by unfold Ahd at hp; omega)]
    exact h3 x y (by unfold Ahd at hp ⊢; omega) hn
theorem PhiS.row (h : PhiS n K Y a n s) : PhiS n K Y (a + 1) 0 s := by
  obtain ⟨h1, h2, h3⟩ := h
  refine ⟨h1, fun x y hp hn => h2 x y ?_ hn, fun x y hp hn => h3 x y ?_ hn⟩
  · have := hn.2.1
    unfold Ahd at hp ⊢
    omega
  · unfold Ahd at hp ⊢
    omega
theorem PhiS.all (h : PhiS n K (Z r) n 0 s) : PhiR n K Z (r + 1) s := ⟨h.1, fun _ x y hn => h.2.1 x y (.inl hn.1) hn⟩
theorem PhiR.start (hI : AInv n t K D s) (h0 : ∀ i, i < n → Z 0 i = startF t i) : PhiR n K Z 0 s := ⟨fun i hi => by
  show s.f i ≤ Z 0 i
  rw [h0 i hi]
  unfold startF
  by_cases e : i = t
  · rw [if_pos e, e, hI.self]; exact Int.le_refl _
  · rw [if_neg e]; exact hI.f16 hi, fun h => absurd h (by omega)⟩
end

end Go.Proofs.YtlbdbfmgkappaaaDoor

/- A net and a line side by side: neither touches the other's blocks. One by one, each thought taken at once. -/
namespace Go.Proofs.YtlbdbfmgkappaaaDoor
open Go.RowKit
set_option linter.unusedVariables false

/-- A block of one of the net's types. -/
def NetB (w : World) (b : Nat) : Prop := ∃ cs ty, w.heap[b]? = some (.cells cs ty (0, 0)) ∧ (ty = 97 ∨ ty = 3 ∨ ty = 23 ∨ ty = 32)
theorem RowP.netB {w : World} {g n : Nat} {t : TypeId} {f : Nat → Value} (h : RowP w g t n f) (ht : t = 97 ∨ t = 3 ∨ t = 23 ∨ t = 32) : NetB w g := by
  obtain ⟨c, hc, _⟩ := h
  exact ⟨c, t, hc, ht⟩

/-- But for blocks of the net's types all is as it was. -/
def KeepT (w w' : World) : Prop := ∀ b, b < w.heap.size → ¬ NetB w b → w'.heap[b]? = w.heap[b]?
theorem RowP.keepT {w w' : World} {g n : Nat} {t : TypeId} {f : Nat → Value} (h : RowP w g t n f) (k : KeepT w w') (ht : ¬ (t = 97 ∨ t = 3 ∨ t = 23 ∨ t = 32)) : RowP w' g t n f := by
  refine h.of_block (k g h.lt fun hb => ht ?_)
  obtain ⟨c, hc, _⟩ := h
  obtain ⟨cs, ty, e, hty⟩ := hb
  rw [hc] at e
  simp at e
  rw [e.2]; exact hty
theorem Blk.keepT {w w' : World} {g : Nat} {t : TypeId} {cs : Array Value} (h : Blk w g t cs) (k : KeepT w w') (ht : ¬ (t = 97 ∨ t = 3 ∨ t = 23 ∨ t = 32)) : Blk w' g t cs := by
  refine (k g h.lt fun hb => ht ?_).trans h
  obtain ⟨cs', ty, e, hty⟩ := hb
  unfold Blk at h
  rw [h] at e
  simp at e
  rw [e.2]; exact hty
theorem own_keepT {w w' : World} {base size n : Nat} {t : TypeId} {v : Value} {xs : List Value} (h : w.ownsRow base t size v n xs) (k : KeepT w w') (ht : ¬ (t = 97 ∨ t = 3 ∨ t = 23 ∨ t = 32)) : w'.ownsRow base t size v n xs := by
  refine ⟨h.1, ?_⟩
  rcases h.2 with h' | ⟨g, cap, cur, hv, hb, hg, hr⟩
  · exact .inl h'
  · refine .inr ⟨g, cap, cur, hv, hb, (k g (Array.getElem?_eq_some_iff.1 hg).1 fun hb' => ht ?_).trans hg, hr⟩
    obtain ⟨cs', ty, e, hty⟩ := hb'
    rw [hg] at e
    simp at e
    rw [e.2]; exact hty
theorem LineH.keepT {w w' : World} {lo s : Nat} {po : Bool} {n m : Nat} {a b c : Nat → Int} {F G : Nat → Nat → Int} (h : LineH w lo s po n m a b c F G) (k : KeepT w w') : LineH w' lo s po n m a b c F G := by
  obtain ⟨lA, lc, gr, gc, B, C, h⟩ := h
  refine ⟨lA, lc, gr, gc, B, C, h.blk.keepT k (by decide), ?_, ⟨own_keepT h.tht.own k (by decide), fun r hr => ⟨(h.tht.row r hr).1, (h.tht.row r hr).2.keepT k (by decide)⟩, h.tht.inj⟩, h.lo⟩
  rcases h.lks with e | ⟨g, e, h1, hr⟩
  · exact .inl e
  · exact .inr ⟨g, e, h1, hr.keepT k (by decide)⟩

section
variable {w0 w w' : World} {lab lab' : Nat → List Nat} {A : AAd} {p0 n t : Nat} {K : Nat → Nat → Int} {D : Nat → Int} {s : AS} {F G : AS → Prop}
open Classical in
/-- Labels on blocks of the net's types alone. -/
theorem AN.tight (h : AN w lab A n t K s) : ∃ L, AN w L A n t K s ∧ (∀ b, L b ≠ [] → L b = lab b) ∧ ∀ b, L b ≠ [] → NetB w b := by
  have hL : ∀ b, NetB w b → (if NetB w b then lab b else []) = lab b := fun b hb => if_pos hb
  have n0 : NetB w A.p := ⟨_, _, h.blk, .inl rfl⟩
  refine ⟨fun b => if NetB w b then lab b else [], ⟨h.blk, h.cst, h.cstr, h.way, h.wayr, fun r k hr hk => ?_, h.hrd, h.hrdr, h.far, (hL _ n0).trans h.lp, (hL _ (h.cst.netB (by simp))).trans h.lC, fun r hr => (hL _ ((h.cstr r hr).netB (by simp))).trans (h.lc r hr), (hL _ (h.way.netB (by simp))).trans h.lW, fun r hr => (hL _ ((h.wayr r hr).netB (by simp))).trans (h.lw r hr), (hL _ (h.hrd.netB (by simp))).trans h.lH, fun r hr => (hL _ ((h.hrdr r hr).netB (by simp))).trans (h.lh r hr), (hL _ (h.far.netB (by simp))).trans h.lF, fun b hb => ?_⟩, fun b hb => ?_, fun b hb => ?_⟩
  · obtain ⟨ho, hq⟩ := h.que r k hr hk
    refine ⟨ho, fun g hg => (hL g ?_).trans (hq g hg)⟩
    rcases ho.2 with ⟨hv, _⟩ | ⟨g', cap, cur, hv, hb, hgb, _⟩
    · rw [hv] at hg; cases hg
    · have : g' = g := by rw [hv] at hg; simpa [Value.ownBlock] using hg
      subst this
      exact ⟨cur, _, hgb, by simp⟩
  · show (if NetB w b then lab b else []) = []
    split
    · exact h.free b hb
    · rfl
  · show (if NetB w b then lab b else []) = lab b
    refine if_pos ?_
    refine Classical.byContradiction fun hn => hb ?_
    show (if NetB w b then lab b else []) = []
    rw [if_neg hn]
  · refine Classical.byContradiction fun hn => hb ?_
    show (if NetB w b then lab b else []) = []
    rw [if_neg hn]

theorem AF.keepT (h : AF lab w lab' w') (hl : ∀ b, lab b ≠ [] → NetB w b) : KeepT w w' := fun b hb hn => h.block hb (Classical.byContradiction fun hne => hn (hl b hne))

theorem NetOk.sendT (h : NetOk w0 p0 n t K D w F) (h8 : n ≤ 8) (a b : Int) (hFG : ∀ s, AInv n t K D s → F s → G (s.send n K a b)) :
    Calls Tryd.prog 13 #[.pointer (some ⟨p0, 0, none⟩), .int .i64 a, .int .i64 b] w fun e w' => ∃ v, e = .returned v ∧ NetOk w0 p0 n t K D w' G ∧ KeepT w w' := by
  obtain ⟨lab, A, s, rfl, h2, h3, h4, h5, h6⟩ := h
  obtain ⟨L, hL, hL1, hL2⟩ := h2.tight
  refine (netSend a b hL h3 h8).mono ?_
  rintro e w' ⟨v, he, lab', A', k1, k2, k3, k4⟩
  have h4' : ∀ b, b < w0.heap.size → L b = [] := fun b hb => Classical.byContradiction fun hn => hn ((hL1 b hn).trans (h4 b hb))
  obtain ⟨k5, k6⟩ := k4.below h5.size h4'
  exact ⟨v, he, ⟨lab', A', _, k1, k2, k3, k6, h5.trans k5, hFG s h3 h6⟩, k4.keepT hL2⟩
theorem NetOk.takeT (h : NetOk w0 p0 n t K D w F) (h8 : n ≤ 8) (hK : CostM n K) (hR : RoundK n t K D D) (hD : ∀ i, i < n → 0 ≤ D i) (a b : Int) (hFG : ∀ s, AInv n t K D s → F s → (∀ i, i < n → (s.take n t K a b).f i ≤ s.f i) → G (s.take n t K a b)) :
    Calls Tryd.prog 14 #[.pointer (some ⟨p0, 0, none⟩), .int .i64 a, .int .i64 b] w fun e w' => ∃ v, e = .returned v ∧ NetOk w0 p0 n t K D w' G ∧ KeepT w w' := by
  obtain ⟨lab, A, s, rfl, h2, h3, h4, h5, h6⟩ := h
  obtain ⟨L, hL, hL1, hL2⟩ := h2.tight
  refine (netTake a b hL h3 h8 hK hR hD).mono ?_
  rintro e w' ⟨v, he, lab', A', k1, k2, k3, k7, k4⟩
  have h4' : ∀ b, b < w0.heap.size → L b = [] := fun b hb => Classical.byContradiction fun hn => hn ((hL1 b hn).trans (h4 b hb))
  obtain ⟨k5, k6⟩ := k4.below h5.size h4'
  exact ⟨v, he, ⟨lab', A', _, k1, k2, k3, k6, h5.trans k5, hFG s h3 h6 k7⟩, k4.keepT hL2⟩

theorem Blk.keepO {w w' : World} {g : Nat} {t : TypeId} {cs : Array Value} (h : Blk w g t cs) (k : KeepO w w') (h1 : t ≠ 90) (h2 : t ≠ 94) : Blk w' g t cs :=
  k g _ h (fun cs fr e => by simp at e; exact h1 e.2.1) (fun cs fr e => by simp at e; exact h2 e.2.1)
theorem AN.keepO (h : AN w lab A n t K s) (k : KeepO w w') (hz : w.heap.size ≤ w'.heap.size) : AN w' lab A n t K s :=
  ⟨h.blk.keepO k (by decide) (by decide), h.cst.keepO k (by decide) (by decide), fun r hr => (h.cstr r hr).keepO k (by decide) (by decide), h.way.keepO k (by decide) (by decide), fun r hr => (h.wayr r hr).keepO k (by decide) (by decide), fun r q hr hq => ⟨own_keepO (h.que r q hr hq).1 k (by decide) (by decide), (h.que r q hr hq).2⟩, h.hrd.keepO k (by decide) (by decide), fun r hr => (h.hrdr r hr).keepO k (by decide) (by decide), h.far.keepO k (by decide) (by decide), h.lp, h.lC, h.lc, h.lW, h.lw, h.lH, h.lh, h.lF, fun b hb => h.free b (Nat.le_trans hz hb)⟩
theorem NetOk.fr (h : NetOk w0 p0 n t K D w F) (k : Fr w0.heap.size w w') : NetOk w0 p0 n t K D w' F := by
  obtain ⟨lab, A, s, h1, h2, h3, h4, h5, h6⟩ := h
  exact ⟨lab, A, s, h1, h2.keepO k.keep k.size, h3, h4, h5.trans k.bel, h6⟩
end

/-- At a round's head: all ways are empty. -/
def PhiT (n : Nat) (K : Nat → Nat → Int) (Y : Nat → Int) (a b : Nat) (s : AS) : Prop :=
  (∀ i, i < n → s.f i ≤ Y i) ∧ (∀ x y, Ahd a b x y → Nbr n K x y → s.newest x y ≤ Y x) ∧ ∀ x y, Nbr n K x y → s.q x y = []
/-- One thought is on its way. -/
def PhiU (n : Nat) (K : Nat → Nat → Int) (Y : Nat → Int) (a b : Nat) (s : AS) : Prop :=
  (∀ i, i < n → s.f i ≤ Y i) ∧ (∀ x y, Ahd a (b + 1) x y → Nbr n K x y → s.newest x y ≤ Y x) ∧ (∀ x y, ¬ (x = a ∧ y = b) → Nbr n K x y → s.q x y = []) ∧ (Nbr n K a b → (s.q a b).length ≤ 1)

section
variable {n t r a b : Nat} {K : Nat → Nat → Int} {D Y : Nat → Int} {Z : Nat → Nat → Int} {s : AS}
theorem PhiT.send (hI : AInv n t K D s) (ha : a < n) (hb : b < n) (h : PhiT n K Y a b s) : PhiU n K Y a b (s.send n K a b) := by
  obtain ⟨h1, h2, h3⟩ := h
  refine ⟨fun i hi => by rw [send_f]; exact h1 i hi, fun x y hp hn => ?_, fun x y hp hn => ?_, fun hn => ?_⟩
  · by_cases e : x = a ∧ y = b
    · obtain ⟨rfl, rfl⟩ := e
      have := h3 x y hn
      rw [send_newest ha hb hn.2.2.1 hn.2.2.2 (by rw [this]; simp)]
      exact h1 x ha
    · exact Int.le_trans (newest_send hI a b hn.1 hn.2.1) (h2 x y (by unfold Ahd at hp ⊢; omega) hn)
  · rw [send_q (a := a) (b := b) x y s n K hp]
    exact h3 x y hn
  · have h4 := send_len s n K a b
    have h5 := h3 a b hn
    rw [h5] at h4
    simpa using h4
theorem PhiU.take (hI : AInv n t K D s) (h : PhiU n K Y a b s) (hf : ∀ i, i < n → (s.take n t K a b).f i ≤ s.f i) : PhiT n K Y a (b + 1) (s.take n t K a b) := by
  obtain ⟨h1, h2, h3, h4⟩ := h
  refine ⟨fun i hi => Int.le_trans (hf i hi) (h1 i hi), fun x y hp hn => by rw [newest_take]; exact h2 x y hp hn, fun x y hn => ?_⟩
  by_cases e : x = a ∧ y = b
  · obtain ⟨rfl, rfl⟩ := e
    have h5 := take_tail (t := t) hn.1 hn.2.1 hn.2.2.1 hn.2.2.2 s
    have h6 := h4 hn
    exact List.eq_nil_of_length_eq_zero (by omega)
  · rw [take_q (a := a) (b := b) x y s e]
    exact h3 x y e hn
theorem PhiT.row (h : PhiT n K Y a n s) : PhiT n K Y (a + 1) 0 s := by
  obtain ⟨h1, h2, h3⟩ := h
  refine ⟨h1, fun x y hp hn => h2 x y ?_ hn, h3⟩
  have := hn.2.1
  unfold Ahd at hp ⊢
  omega
theorem PhiT.all (hI : AInv n t K D s) (hK : CostM n K) (h : PhiT n K (Z r) n 0 s) (hZ : ∀ r, RoundK n t K (Z r) (Z (r + 1))) (h0 : ∀ r i, i < n → 0 ≤ Z r i) : PhiT n K (Z (r + 1)) 0 0 s := by
  obtain ⟨h1, h2, h3⟩ := h
  exact ⟨hI.drained (X := Z r) (fun a b ha hb hne hk => ⟨h3 a b ⟨ha, hb, hne, hk⟩, h2 a b (.inl ha) ⟨ha, hb, hne, hk⟩⟩) (fun i hi => h0 r i hi) hK (hZ r), fun x y hp => by unfold Ahd at hp; omega, h3⟩
theorem PhiT.start (h0 : ∀ i, i < n → Z 0 i = startF t i) : PhiT n K (Z 0) 0 0 (AS.new t) :=
  ⟨fun i hi => by rw [h0 i hi]; exact Int.le_refl _, fun x y hp => by unfold Ahd at hp; omega, fun x y _ => rfl⟩
end

end Go.Proofs.YtlbdbfmgkappaaaDoor

/- SpfBell: how far each is, the nearest first, is what all think in the end, round by round, and what a star of the costs tells. For all arguments; no condition. -/
namespace Go.Proofs.YtlbdbfmgkappaaaDoor
open Go.RowKit
set_option linter.unusedVariables false

theorem cost_table {n m : Nat} {a b c : Nat → Int} (hr : Right n m a b c) : Ranged n (costF m a b c) := fun i j _ _ => costV_ranged hr i j

/-- The star of the costs tells how far. -/
theorem star_end {n m t : Nat} {a b c : Nat → Int} (hr : Right n m a b c) (ht : t < n) {i : Nat} (hi : i < n) : starF n (costF m a b c) t i = endF t a b c m i := by
  have hK := cost_m hr
  have hR := cost_table hr
  have hD := far_end hr ht
  refine Int.le_antisymm (hD.most hK (f := fun i => starF n (costF m a b c) t i) (Int.le_of_eq (star_diag hR n (Nat.le_refl _) t ht)) (fun i hi => (star_ranged hR n (Nat.le_refl _) t i ht hi).2) (fun i k hi hk _ _ => ?_) i hi) ?_
  · have h1 := star_tri hR ht hk hi
    have h2 := star_table hR k i hk hi n
    have h3 := hK.back i k hi hk
    show starF n (costF m a b c) t i ≤ costF m a b c i k + starF n (costF m a b c) t k
    have h4 : starF n (costF m a b c) k i ≤ costF m a b c k i := h2
    omega
  · have hs := star_steps hR n (Nat.le_refl _) t i ht hi
    have h : ∀ {x y : Nat} {s : Int}, Steps n (costF m a b c) x y s → endF t a b c m y ≤ endF t a b c m x + s := by
      intro x y s h
      induction h with
      | none i hi => omega
      | more i j k s hi hjk ih =>
        have h1 := hD.tri j i hjk.fst hi
        have h2 := hK.back j i hjk.fst hi
        omega
    have h1 := h hs
    rw [hD.zero] at h1
    have h2 : starF n (costF m a b c) t i = starTo (costF m a b c) n t i := rfl
    omega

end Go.Proofs.YtlbdbfmgkappaaaDoor

/- TopFar: five ways, one answer. For all arguments; no condition. -/
namespace Go.Proofs.YtlbdbfmgkappaaaDoor
open Go.RowKit
set_option linter.unusedVariables false

set_option maxRecDepth 100000 in
set_option maxHeartbeats 8000000 in
theorem topFar_walk (x : Int) (A : Option Addr) (m cp : Nat) (a b c : Nat → Int) (y : Int) (w : World) (hN : NobT w) (hl : Lnk w A m a b c) (hm : m ≤ 9223372036854775807) :
    Calls Tryd.prog 3 #[.int .i64 x, .slice A m cp, .int .i64 y] w fun e w' => e = .returned (.bool true) ∧ Below w.heap.size w w' := by
  have HL := Lib.hid hl
  have HN := Lib.hid hN
  clear hl hN
  go_enter Tryd.func3, Tryd.ntmps3
  go_wp2_with fail
  rcases bellRun_bad_aux x y m a b c with ⟨hg, h0, h1⟩ | ⟨v, hv, hf⟩
  · obtain ⟨n, rfl, hn1, hn8, hr⟩ := good_nat hg
    obtain ⟨t, rfl⟩ : ∃ t : Nat, y = t := ⟨y.toNat, by omega⟩
    have ht : t < n := by omega
    have ht' : (t : Int) < n := by omega
    have hn8' : (n : Int) ≤ 8 := by omega
    have HG := Lib.hid hg
    have HR := Lib.hid hr
    clear hg hr h0 h1
    have hcall := bellRun_ok n t n t rfl rfl A m cp a b c w HL.out hm HG.out ht
    refine hcall.mono ?_
    clear hcall
    rintro e w1 ⟨g1, kk, rfl, -, hrow, htk, hb1⟩
    have HX := Lib.hid hrow
    have hkn : kk < n := htk.1
    have hkd : decide (n ≤ kk) = false := decide_eq_false (by omega)
    have hkd' : decide ((n : Int) ≤ kk) = false := decide_eq_false (by omega)
    have HB1 := Lib.hid hb1
    clear hrow htk hb1
    go_wp2_with fail
    have hcall := spfFar_ok n t n t rfl rfl A m cp a b c w1 (HL.out.keep HB1.out) hm HG.out ht
    refine hcall.mono ?_
    clear hcall
    rintro e w2 ⟨g2, rfl, -, hrow, hb2⟩
    have HY := Lib.hid hrow
    have HX2 := Lib.hid (HX.out.below hb2 HX.out.lt)
    have HB2 := Lib.hid (keep HB1.out hb2)
    clear hrow hb2 HB1 HX
    go_wp2_with fail
    have hcall := bellRun_ok 2 0 2 0 rfl rfl (some ⟨w2.heap.size, 0, none⟩) 1 1 (fun _ => 0) (fun _ => 1) (fun _ => 3) _ (lnk_lit w2) (by omega) good_lit (by omega)
    refine hcall.mono ?_
    clear hcall
    rintro e w3 ⟨g3, k3, rfl, -, hrow, -, hb3⟩
    have c3 := hrow.cell (i := 1) (by omega)
    rw [show endF 0 (fun _ => 0) (fun _ => 1) (fun _ => 3) 1 1 = 3 from (end_lit 1 (by omega)).symm] at c3
    have hb23 : Below w2.heap.size w2 w3 := keepAlloc (Below.refl _ _) hb3
    have HX3 := Lib.hid (HX2.out.below hb23 HX2.out.lt)
    have HY3 := Lib.hid (HY.out.below hb23 HY.out.lt)
    have HB3 := Lib.hid (keep HB2.out hb23)
    clear hrow hb3 hb23 HB2 HX2 HY
    go_wp2_with fail
    have hcall := costs_ok n n rfl A m cp a b c w3 (HL.out.keep HB3.out) hm HG.out
    refine hcall.mono ?_
    clear hcall
    rintro e w4 ⟨g4, cg, B, C, rfl, -, hat, hb4⟩
    have HM := Lib.hid (hat.mat' hn1)
    have HX4 := Lib.hid (HX3.out.below hb4 HX3.out.lt)
    have HY4 := Lib.hid (HY3.out.below hb4 HY3.out.lt)
    have HB4 := Lib.hid (keep HB3.out hb4)
    clear hat hb4 HB3 HX3 HY3 c3
    go_wp2_with fail
    have hcall := matStar_ok (some ⟨g4, 0, none⟩) n cg (fun _ => n) (costF m a b c) w4 HM.out (Good.mk' hn1 hn8 (cost_table HR.out))
    refine hcall.mono ?_
    clear hcall
    rintro e w5 ⟨E, cE, rfl, hS, hb5⟩
    have HS5 := Lib.hid hS
    have HX5 := Lib.hid (HX4.out.below hb5 HX4.out.lt)
    have HY5 := Lib.hid (HY4.out.below hb5 HY4.out.lt)
    have HB5 := Lib.hid (keep HB4.out hb5)
    clear hS hb5 HB4 HX4 HY4 HM
    go_wp2_with fail
    have hcall := lineNew_ok n n rfl A m cp false a b c w5 (HN.out.keep HB5.out) (HL.out.keep HB5.out) hm HG.out
    refine hcall.mono ?_
    clear hcall
    rintro e w6 ⟨s, rfl, hL, hb6⟩
    have HL6 : Hid (LineH w6 w5.heap.size s false n m a b c (fun i t => (lineS false n (costF m a b c) startS 0 i t).1) (fun i t => (lineS false n (costF m a b c) startS 0 i t).2)) := hL
    have HB6 := Lib.hid hb6
    clear hL hb6
    go_wp2_with fail
    have hcall := asyncNew_ok n n rfl A m cp t t rfl a b c w6 (HL.out.keep (keep HB5.out HB6.out)) hm HG.out ht
    refine hcall.mono ?_
    clear hcall
    rintro e w7 ⟨lab, Ad, rfl, hA, hlow, hb7⟩
    have HL7 := Lib.hid (HL6.out.below hb7)
    obtain ⟨p0, hp0⟩ : ∃ p0, Ad.p = p0 := ⟨_, rfl⟩
    obtain ⟨K, hK⟩ : ∃ K, costF m a b c = K := ⟨_, rfl⟩
    obtain ⟨D, hD⟩ : ∃ D, endF t a b c m = D := ⟨_, rfl⟩
    obtain ⟨Z, hZ⟩ : ∃ Z, rounds t a b c m (startF t) = Z := ⟨_, rfl⟩
    have HK : Hid (CostM n K) := by rw [← hK]; exact cost_m HR.out
    have HRD : Hid (RoundK n t K D D) := by rw [← hK, ← hD]; exact end_k HR.out
    have HRZ : Hid (∀ r, RoundK n t K (Z r) (Z (r + 1))) := by rw [← hK, ← hZ]; exact rounds_k HR.out _
    have HD0 : Hid (∀ i, i < n → 0 ≤ D i) := by rw [← hD]; exact fun i hi => (end_ranged HR.out i hi).1
    have HZ0 : Hid (∀ r i, i < n → 0 ≤ Z r i) := by rw [← hZ]; exact fun r i hi => (rounds_ranged HR.out (startF_ranged t n) r i hi).1
    have HZS : Hid (∀ i, i < n → Z 0 i = startF t i) := by rw [← hZ]; exact fun i hi => rfl
    have HZE : Hid (∀ i, i < n → Z n i = D i) := by rw [← hZ, ← hD]; exact fun i hi => end_fewer HR.out ht (by omega) i hi
    have HN7 : Hid (NetOk w5 p0 n t K D w7 (PhiT n K (Z 0) 0 0)) := by
      rw [hK] at hA
      rw [← hD]
      refine ⟨lab, Ad, _, hp0, hA, ?_, fun b hb => hlow b (Nat.lt_of_lt_of_le hb HB6.out.size), keep HB6.out hb7, PhiT.start HZS.out⟩
      rw [hD]
      exact AInv.new HK.out HRD.out
    have HXD : Hid (RowP w5 g1 3 n (fun i => .int .i64 (D i))) := by rw [← hD]; exact HX5.out
    have HYD : Hid (RowP w5 g2 3 n (fun i => .int .i64 (D i))) := by rw [← hD]; exact HY5.out
    have HSD : Hid (Mat w5 E n (fun _ => n) (starF n K)) := by rw [← hK]; exact HS5.out
    have HST : Hid (∀ i, i < n → starF n K i t = D i) := by
      show ∀ i, i < n → starF n K i t = D i
      intro i hi
      rw [← hK, ← hD, star_end HR.out hi ht]
      exact ((far_end HR.out ht).back (cost_m HR.out) ht hi (far_end HR.out hi)).symm
    have HLE : Hid (∀ i, i < n → (lineS false n K startS n i t).1 = D i) := by
      show ∀ i, i < n → (lineS false n K startS n i t).1 = D i
      intro i hi
      rw [← hK, ← hD, (line_settled (po := false) HR.out (N := n) (by omega) hi ht).1]
      exact ((far_end HR.out ht).back (cost_m HR.out) ht hi (far_end HR.out hi)).symm
    have HKC := Lib.hid hK
    rw [hK] at HL7
    rw [hp0]
    clear hA hlow hb7 hp0 hK hD hZ HX5 HY5 HS5 HL6 HB6
    go_wp2_with fail
    go_loopw [23] (fun q wr => ∃ r : Nat, r ≤ n ∧ q = .int .i64 r ∧ NetOk w5 p0 n t K D wr (PhiT n K (Z r) 0 0) ∧ LineH wr w5.heap.size s false n m a b c (fun i t => (lineS false n K startS r i t).1) (fun i t => (lineS false n K startS r i t).2)) (fun q _ => n - (intOf q).toNat)
    case atStart => exact ⟨0, by omega, rfl, HN7.out, HL7.out⟩
    case round =>
      obtain ⟨r, hr, rfl, hN, hL⟩ := hrel
      have HNR := Lib.hid hN
      have HLR := Lib.hid hL
      clear hN hL HN7 HL7
      by_cases hrn : r < n
      · have hrn' : (r : Int) < n := by omega
        have hcall := lineStep s n m _ false a b c _ _ wr (HN.out.keep (keep HB5.out HNR.out.bel)) HLR.out hn1 hn8 hm HR.out (lineS_ranged HK.out startS_ranged r) HNR.out.bel.size
        rw [HKC.out] at hcall
        have HC := Lib.hid hcall
        clear hcall
        go_wp2_with fail
        refine HC.out.mono ?_
        rintro e w8 ⟨rfl, hL8, hf8⟩
        have HL8 : Hid (LineH w8 w5.heap.size s false n m a b c (fun i t => (lineS false n K startS (r + 1) i t).1) (fun i t => (lineS false n K startS (r + 1) i t).2)) := hL8
        have HN8 := Lib.hid (HNR.out.fr hf8)
        clear hL8 hf8 HC HNR HLR
        go_wp2_with fail
        go_loopw [24] (fun q wr => ∃ i : Nat, i ≤ n ∧ q = .int .i64 i ∧ NetOk w5 p0 n t K D wr (PhiT n K (Z r) i 0) ∧ LineH wr w5.heap.size s false n m a b c (fun i t => (lineS false n K startS (r + 1) i t).1) (fun i t => (lineS false n K startS (r + 1) i t).2)) (fun q _ => n - (intOf q).toNat)
        case atStart => exact ⟨0, by omega, rfl, HN8.out, HL8.out⟩
        case round =>
          obtain ⟨i, hi, rfl, hN, hL⟩ := hrel
          have HNR := Lib.hid hN
          have HLR := Lib.hid hL
          clear hN hL HN8 HL8
          by_cases hin : i < n
          · have hin' : (i : Int) < n := by omega
            go_wp2_with fail
            go_loopw [25] (fun q wr => ∃ j : Nat, j ≤ n ∧ q = .int .i64 j ∧ NetOk w5 p0 n t K D wr (PhiT n K (Z r) i j) ∧ LineH wr w5.heap.size s false n m a b c (fun i t => (lineS false n K startS (r + 1) i t).1) (fun i t => (lineS false n K startS (r + 1) i t).2)) (fun q _ => n - (intOf q).toNat)
            case atStart => exact ⟨0, by omega, rfl, HNR.out, HLR.out⟩
            case round =>
              obtain ⟨j, hj, rfl, hN, hL⟩ := hrel
              have HN9 := Lib.hid hN
              have HL9 := Lib.hid hL
              clear hN hL HNR HLR
              by_cases hjn : j < n
              · have hjn' : (j : Int) < n := by omega
                go_wp2_with fail
                refine (HN9.out.sendT hn8 i j (G := PhiU n K (Z r) i j) fun s hI h => h.send hI hin hjn).mono ?_
                rintro e w10 ⟨v10, rfl, hN10, hk10⟩
                have HN10 := Lib.hid hN10
                have HL10 := Lib.hid (HL9.out.keepT hk10)
                clear hN10 hk10 HN9 HL9
                go_wp2_with fail
                refine (HN10.out.takeT hn8 HK.out HRD.out HD0.out i j (G := PhiT n K (Z r) i (j + 1)) fun s hI h hf => h.take hI hf).mono ?_
                rintro e w11 ⟨v11, rfl, hN11, hk11⟩
                have HN11 := Lib.hid hN11
                have HL11 := Lib.hid (HL10.out.keepT hk11)
                clear hN11 hk11 HN10 HL10
                go_wp2_with fail
                go_roundw
                case rel => exact ⟨j + 1, by omega, by go_num, HN11.out, HL11.out⟩
                case measure => simp [intOf]; omega
              · have ej : j = n := by omega
                have HY := Lib.hid (HN9.out.imp (G := PhiT n K (Z r) (i + 1) 0) fun s hI h => by rw [ej] at h; exact h.row)
                have f1 : decide (j < n) = false := decide_eq_false hjn
                have f2 : decide ((j : Int) < n) = false := decide_eq_false (by omega)
                have f3 : decide (n ≤ j) = true := decide_eq_true (by omega)
                have HEJ := Lib.hid ej
                clear ej HN9
                go_wp2_with fail
                go_roundw
                case rel => exact ⟨i + 1, by omega, by go_num, HY.out, HL9.out⟩
                case measure => simp [intOf]; omega
          · have ei : i = n := by omega
            have HY := Lib.hid (HNR.out.imp (G := PhiT n K (Z (r + 1)) 0 0) fun s hI h => by rw [ei] at h; exact h.all hI HK.out HRZ.out HZ0.out)
            have f1 : decide (i < n) = false := decide_eq_false hin
            have f2 : decide ((i : Int) < n) = false := decide_eq_false (by omega)
            have f3 : decide (n ≤ i) = true := decide_eq_true (by omega)
            have HEI := Lib.hid ei
            clear ei HNR
            go_wp2_with fail
            go_roundw
            case rel => exact ⟨r + 1, by omega, by go_num, HY.out, HLR.out⟩
            case measure => simp [intOf]; omega
      · have er : r = n := by omega
        have HNF := Lib.hid (HNR.out.imp (G := fun s => ∀ i, i < n → s.f i = D i) fun s hI h => by
          rw [er] at h
          exact fun i hi => Int.le_antisymm (by have := h.1 i hi; rw [HZE.out i hi] at this; exact this) (hI.low i hi))
        have HLF : Hid (LineH wr w5.heap.size s false n m a b c (fun i t => (lineS false n K startS n i t).1) (fun i t => (lineS false n K startS n i t).2)) := by
          have := HLR.out
          rw [er] at this
          exact this
        have f1 : decide (r < n) = false := decide_eq_false hrn
        have f2 : decide ((r : Int) < n) = false := decide_eq_false (by omega)
        have f3 : decide (n ≤ r) = true := decide_eq_true (by omega)
        have HER := Lib.hid er
        clear er HNR HLR
        obtain ⟨ad, rfl⟩ := HSD.out.some_ hn1
        obtain ⟨wo, hwo⟩ : ∃ wo : World, wo = wr := ⟨_, rfl⟩
        rw [← hwo] at HNF HLF ⊢
        clear hwo
        go_wp2_with fail
        go_loopw [26] (fun q wi => ∃ i : Nat, i ≤ n ∧ q = .int .i64 i ∧ Below wo.heap.size wo wi) (fun q _ => n - (intOf q).toNat)
        case atStart => exact ⟨0, by omega, rfl, Below.refl _ _⟩
        case round =>
          obtain ⟨i, hi, rfl, hb⟩ := hrel
          have HBI := Lib.hid hb
          clear hb
          by_cases hin : i < n
          · have hin' : (i : Int) < n := by omega
            have hcall := lineRow_ok s n m i i rfl _ false a b c _ _ wr (HLF.out.below HBI.out) hin hn8
            have HC := Lib.hid hcall
            clear hcall
            go_wp2_with fail
            refine HC.out.mono ?_
            rintro e w12 ⟨v12, rfl, hV, hb12⟩
            obtain ⟨A12, c12, rfl, hv12⟩ := hV.vec
            have HV12 := Lib.hid hv12
            have HB12 := Lib.hid (keep HBI.out hb12)
            clear hV hv12 hb12 HC HBI
            go_wp2_with fail
            have hcall := (HNF.out.below HB12.out).dist hn8 i i rfl hin (D i) (fun s hI h => h i hin)
            have HC := Lib.hid hcall
            clear hcall
            refine HC.out.mono ?_
            rintro e w13 ⟨rfl, h13⟩
            subst w13
            clear HC
            have hbb : Below w5.heap.size w5 w12 := HNF.out.bel.trans (HB12.out.mono HNF.out.bel.size)
            have x1 := (HXD.out.below hbb HXD.out.lt).cell hin
            have x2 := (HYD.out.below hbb HYD.out.lt).cell hin
            obtain ⟨ad2, Ai, ci, e2, -, x3, hav⟩ := (HSD.out.keep hbb) i hin
            obtain ⟨ai, rfl, -, x4⟩ := hav t ht
            obtain ⟨ai2, rfl, -, x5⟩ := HV12.out t ht
            obtain rfl : ad = ad2 := by simpa using e2
            rw [HST.out i hin] at x4
            simp only at x5
            rw [HLE.out i hin] at x5
            obtain ⟨d, hd⟩ : ∃ d, D i = d := ⟨_, rfl⟩
            rw [hd] at x1 x2 x4 x5 ⊢
            clear hd hbb hav e2
            go_wp2_with fail
            go_quiet (fail)
            go_wp2_with fail
            go_roundw
            case rel => exact ⟨i + 1, by omega, by go_num, below_drewN HB12.out _⟩
            case measure => simp [intOf]; omega
          · have g1' : decide (i < n) = false := decide_eq_false hin
            have g2' : decide ((i : Int) < n) = false := decide_eq_false (by omega)
            have g3' : decide (n ≤ i) = true := decide_eq_true (by omega)
            go_wp2_with fail
            go_ret
            exact ⟨rfl, (keep HB5.out (HNF.out.bel.trans (HBI.out.mono HNF.out.bel.size)))⟩
  · refine (bellRun_bad x y A m cp a b c w HL.out hm v hf).mono ?_
    rintro e w1 ⟨rfl, hb1⟩
    have HB1 := Lib.hid hb1
    clear hb1
    go_wp2_with fail
    refine (spfFar_bad x y A m cp a b c w1 (HL.out.keep HB1.out) hm v hf).mono ?_
    rintro e w2 ⟨rfl, hb2⟩
    have HB2 := Lib.hid (keep HB1.out hb2)
    clear hb2 HB1
    go_wp2_with fail
    have hcall := bellRun_ok 2 0 2 0 rfl rfl (some ⟨w2.heap.size, 0, none⟩) 1 1 (fun _ => 0) (fun _ => 1) (fun _ => 3) _ (lnk_lit w2) (by omega) good_lit (by omega)
    refine hcall.mono ?_
    clear hcall
    rintro e w3 ⟨g3, k3, rfl, -, hrow, -, hb3⟩
    have c3 := hrow.cell (i := 1) (by omega)
    rw [show endF 0 (fun _ => 0) (fun _ => 1) (fun _ => 3) 1 1 = 3 from (end_lit 1 (by omega)).symm] at c3
    have HB3 : Hid (Below w.heap.size w w3) := keepAlloc HB2.out hb3
    clear hrow hb3 HB2 hf hv
    go_wp2_with fail
    go_ret
    exact ⟨rfl, HB3.out⟩

end Go.Proofs.YtlbdbfmgkappaaaDoor


/- Never round: plain laws of what nodes think, and of the least that they thought. -/
import Derived.Test.YtlemmphnmklbeaaHear
import Derived.Test.YtlemmphnmklbeaaPick
namespace Go.Proofs.Ytlemmphnmklbeaa
open Go.RowKit
set_option linter.unusedVariables false

/-- What is thought, the least of it, what was heard, what is on each way, what links cost; how often a way was laid anew. -/
structure LS where
  f : Nat → Int
  e : Nat → Int
  h : Nat → Nat → Int
  q : Nat → Nat → List Int
  K : Nat → Nat → Int
  c : Nat

/-- Is k a next one of node i? -/
def LS.isN (s : LS) (n t i k : Nat) : Bool := decide (i ≠ t ∧ nearE n s.K i k = 0 ∧ s.h i k < s.e i)
/-- The next ones of node i. -/
def LS.nexts (s : LS) (n t i : Nat) : List Int := pickL (s.isN n t i) n
/-- The least by the first j of some. -/
def leastL (K h : Nat → Int) (l : List Int) : Nat → Int
  | 0 => 16
  | j + 1 => min (leastL K h l j) (K (atL l j).toNat + h (atL l j).toNat)
/-- What node i thinks anew. -/
def LS.newF (s : LS) (n t i : Nat) : Int := leastL (s.K i) (s.h i) (s.nexts n t i) (s.nexts n t i).length
def LS.anew (s : LS) (n t i : Nat) : LS :=
  if i = t then s else { s with f := upd s.f i (s.newF n t i), e := upd s.e i (min (s.e i) (s.newF n t i)) }

def LS.sendE (s : LS) (n : Nat) (a b : Int) : Int := if nearE n s.K a b = 0 ∧ 20 ≤ (s.q a.toNat b.toNat).length then 4 else nearE n s.K a b
def LS.takeE (s : LS) (n : Nat) (a b : Int) : Int := if nearE n s.K a b = 0 ∧ (s.q a.toNat b.toNat).length = 0 then 2 else nearE n s.K a b
def LS.costE (s : LS) (n : Nat) (a b c : Int) : Int := if nearE n s.K a b = 0 ∧ (c < 1 ∨ 15 < c) then 1 else nearE n s.K a b

/-- A way is another one. -/
def LS.way (s : LS) (a b : Nat) (l : List Int) : LS := { s with q := fun x y => if x = a ∧ y = b then l else s.q x y, c := s.c + 1 }
def LS.hear (s : LS) (b a : Nat) (d : Int) : LS := { s with h := fun x y => if x = b ∧ y = a then d else s.h x y }
def LS.put (s : LS) (a b : Nat) : LS := s.way a b (s.q a b ++ [s.f a])
def LS.first (s : LS) (a b : Nat) : Int := (s.q a b).headD 0
def LS.come (s : LS) (a b : Nat) : LS := (s.hear b a (s.first a b)).way a b (s.q a b).tail
/-- A cost is another one. -/
def LS.dear1 (s : LS) (a b : Nat) (c : Int) : LS := { s with K := fun x y => if x = a ∧ y = b then c else s.K x y }
def LS.dear (s : LS) (a b : Nat) (c : Int) : LS := (s.dear1 a b c).dear1 b a c

def LS.send (s : LS) (n : Nat) (a b : Int) : LS := if s.sendE n a b = 0 then s.put a.toNat b.toNat else s
def LS.take (s : LS) (n t : Nat) (a b : Int) : LS := if s.takeE n a b = 0 then (s.come a.toNat b.toNat).anew n t b.toNat else s
def LS.cost (s : LS) (n t : Nat) (a b c : Int) : LS :=
  if s.costE n a b c = 0 then ((s.dear a.toNat b.toNat c).anew n t (min a b).toNat).anew n t (max a b).toNat else s
/-- 0 sent, 1 taken, else a cost changes. -/
def LS.act (s : LS) (n t : Nat) (o a b c : Int) : LS := if o = 0 then s.send n a b else if o = 1 then s.take n t a b else s.cost n t a b c

def LS.new (t : Nat) (K : Nat → Nat → Int) : LS := ⟨startF t, startF t, fun _ _ => 16, fun _ _ => [], K, 0⟩

section
variable {K h : Nat → Int} {l : List Int} {p : Nat → Bool} {r : Nat}
theorem pick_at {j : Nat} (hj : j < (pickL p r).length) : ∃ v : Nat, atL (pickL p r) j = v ∧ v < r ∧ p v = true := by
  have hm : atL (pickL p r) j ∈ pickL p r := atL_mem.1 ⟨j, hj, rfl⟩
  obtain ⟨v, _, e⟩ := List.mem_map.1 (show atL (pickL p r) j ∈ ((List.range r).filter p).map (fun k : Nat => (k : Int)) from hm)
  rw [← e] at hm
  exact ⟨v, e.symm, pickL_mem.1 hm⟩
theorem least_le : ∀ j, leastL K h l j ≤ 16
  | 0 => Int.le_refl _
  | j + 1 => by
    have := least_le j
    show min (leastL K h l j) _ ≤ 16
    omega
theorem least_low {k : Nat} : ∀ j, k < j → leastL K h l j ≤ K (atL l k).toNat + h (atL l k).toNat
  | 0, hk => absurd hk (by omega)
  | j + 1, hk => by
    show min (leastL K h l j) (K (atL l j).toNat + h (atL l j).toNat) ≤ _
    by_cases e : k = j
    · subst e; omega
    · have := least_low (k := k) j (by omega)
      omega
theorem least_is : ∀ j, leastL K h l j = 16 ∨ ∃ k, k < j ∧ leastL K h l j = K (atL l k).toNat + h (atL l k).toNat
  | 0 => .inl rfl
  | j + 1 => by
    show min (leastL K h l j) (K (atL l j).toNat + h (atL l j).toNat) = 16 ∨ ∃ k, k < j + 1 ∧ min (leastL K h l j) (K (atL l j).toNat + h (atL l j).toNat) = _
    rcases Int.le_total (leastL K h l j) (K (atL l j).toNat + h (atL l j).toNat) with hle | hle
    · rw [Int.min_eq_left hle]
      rcases least_is j with e | ⟨k, hk, e⟩
      · exact .inl e
      · exact .inr ⟨k, by omega, e⟩
    · rw [Int.min_eq_right hle]
      exact .inr ⟨j, by omega, rfl⟩
end

/-- What a net keeps. -/
structure LInv (n t : Nat) (s : LS) : Prop where
  cost : CostM n s.K
  self : s.f t = 0
  far : ∀ i, i < n → 0 ≤ s.f i ∧ s.f i ≤ 16
  low : ∀ i, i < n → 0 ≤ s.e i ∧ s.e i ≤ s.f i
  hrd : ∀ i k, i < n → k < n → s.e k ≤ s.h i k ∧ s.h i k ≤ 16
  way : ∀ a b x, a < n → b < n → x ∈ s.q a b → s.e a ≤ x ∧ x ≤ 16
  few : ∀ a b, a < n → b < n → (s.q a b).length ≤ 20

section
variable {n t : Nat} {s : LS} {a b c : Int}
theorem lsend_zero (h : s.sendE n a b = 0) : nearE n s.K a b = 0 ∧ (s.q a.toNat b.toNat).length < 20 := by
  unfold LS.sendE at h
  split at h
  · omega
  · rename_i hc
    exact ⟨h, by
      rcases Nat.lt_or_ge (s.q a.toNat b.toNat).length 20 with h' | h'
      · exact h'
      · exact absurd ⟨h, h'⟩ hc⟩
theorem ltake_zero (h : s.takeE n a b = 0) : nearE n s.K a b = 0 ∧ 0 < (s.q a.toNat b.toNat).length := by
  unfold LS.takeE at h
  split at h
  · omega
  · rename_i hc
    exact ⟨h, by
      rcases Nat.eq_zero_or_pos (s.q a.toNat b.toNat).length with h' | h'
      · exact absurd ⟨h, h'⟩ hc
      · exact h'⟩
theorem lcost_zero (h : s.costE n a b c = 0) : nearE n s.K a b = 0 ∧ 1 ≤ c ∧ c ≤ 15 := by
  unfold LS.costE at h
  split at h
  · omega
  · rename_i hc
    exact ⟨h, by
      by_cases h' : c < 1 ∨ 15 < c
      · exact absurd ⟨h, h'⟩ hc
      · omega⟩

theorem LInv.hrd0 (hI : LInv n t s) {i k : Nat} (hi : i < n) (hk : k < n) : 0 ≤ s.h i k ∧ s.h i k ≤ 16 := by
  have h1 := hI.hrd i k hi hk
  have h2 := hI.low k hk
  omega
theorem LInv.way0 (hI : LInv n t s) {i k : Nat} {x : Int} (hi : i < n) (hk : k < n) (hx : x ∈ s.q i k) : 0 ≤ x ∧ x ≤ 16 := by
  have h1 := hI.way i k x hi hk hx
  have h2 := hI.low i hi
  omega
/-- A next one thought less, at its least. -/
theorem LInv.less (hI : LInv n t s) {i k : Nat} (hi : i < n) (hk : k < n) (h : s.isN n t i k = true) : s.e k < s.e i := by
  have h1 := hI.hrd i k hi hk
  have h2 := of_decide_eq_true h
  omega
theorem newF_bounds (hK : CostM n s.K) (hh : ∀ i k, i < n → k < n → 0 ≤ s.h i k) {i : Nat} (hi : i < n) : 0 ≤ s.newF n t i ∧ s.newF n t i ≤ 16 := by
  refine ⟨?_, least_le _⟩
  unfold LS.newF
  rcases least_is (K := s.K i) (h := s.h i) (l := s.nexts n t i) (s.nexts n t i).length with e | ⟨k, hk, e⟩
  · rw [e]; omega
  · rw [e]
    obtain ⟨v, hv, hvn, _⟩ := pick_at hk
    show 0 ≤ s.K i (atL (pickL (s.isN n t i) n) k).toNat + s.h i (atL (pickL (s.isN n t i) n) k).toNat
    rw [hv, show ((v : Int)).toNat = v by omega]
    have := hK.nonneg hi hvn
    have := hh i v hi hvn
    omega

theorem anew_q (s : LS) (i : Nat) : (s.anew n t i).q = s.q := by unfold LS.anew; split <;> rfl
theorem anew_h (s : LS) (i : Nat) : (s.anew n t i).h = s.h := by unfold LS.anew; split <;> rfl
theorem anew_K (s : LS) (i : Nat) : (s.anew n t i).K = s.K := by unfold LS.anew; split <;> rfl
theorem anew_c (s : LS) (i : Nat) : (s.anew n t i).c = s.c := by unfold LS.anew; split <;> rfl
theorem anew_self (s : LS) : s.anew n t t = s := if_pos rfl
theorem anew_other (s : LS) {i x : Nat} (h : x ≠ i) : (s.anew n t i).f x = s.f x ∧ (s.anew n t i).e x = s.e x := by
  unfold LS.anew
  split
  · exact ⟨rfl, rfl⟩
  · exact ⟨upd_other _ _ h, upd_other _ _ h⟩
theorem anew_at (s : LS) {i : Nat} (h : i ≠ t) : (s.anew n t i).f i = s.newF n t i ∧ (s.anew n t i).e i = min (s.e i) (s.newF n t i) := by
  unfold LS.anew
  rw [if_neg h]
  exact ⟨upd_same _ _ _, upd_same _ _ _⟩
/-- The least behind it. -/
theorem anew_min (s : LS) (i : Nat) {x : Nat} (he : s.e x ≤ s.f x) : (s.anew n t i).e x = min (s.e x) ((s.anew n t i).f x) := by
  by_cases hx : x = i
  · subst hx
    by_cases ht : x = t
    · subst ht; rw [anew_self, Int.min_eq_left he]
    · rw [(anew_at s ht).1, (anew_at s ht).2]
  · rw [(anew_other s hx).1, (anew_other s hx).2, Int.min_eq_left he]
theorem anew_fall (s : LS) (i x : Nat) : (s.anew n t i).e x ≤ s.e x := by
  by_cases hx : x = i
  · subst hx
    by_cases ht : x = t
    · subst ht; rw [anew_self]; exact Int.le_refl _
    · rw [(anew_at s ht).2]; omega
  · rw [(anew_other s hx).2]; exact Int.le_refl _

theorem LInv.anew (hI : LInv n t s) {i : Nat} (hi : i < n) : LInv n t (s.anew n t i) := by
  have hb := newF_bounds (t := t) hI.cost (fun i k hi hk => (hI.hrd0 hi hk).1) hi
  refine ⟨by rw [anew_K]; exact hI.cost, ?_, fun x hx => ?_, fun x hx => ?_, fun x k hx hk => ?_, fun a b x ha hb hx => ?_, fun a b ha hb => by rw [anew_q]; exact hI.few a b ha hb⟩
  · by_cases e : t = i
    · subst e; rw [anew_self]; exact hI.self
    · rw [(anew_other s e).1]; exact hI.self
  · by_cases e : x = i
    · subst e
      by_cases ht : x = t
      · subst ht; rw [anew_self]; exact hI.far x hx
      · rw [(anew_at s ht).1]; exact hb
    · rw [(anew_other s e).1]; exact hI.far x hx
  · rw [anew_min s i (hI.low x hx).2]
    have h1 := hI.low x hx
    refine ⟨?_, by omega⟩
    by_cases e : x = i
    · subst e
      by_cases ht : x = t
      · subst ht; rw [anew_self]; have := hI.far x hx; omega
      · rw [(anew_at s ht).1]; omega
    · rw [(anew_other s e).1]; have := hI.far x hx; omega
  · rw [anew_h]
    have h1 := hI.hrd x k hx hk
    have h2 := anew_fall (n := n) (t := t) s i k
    omega
  · rw [anew_q] at hx
    have h1 := hI.way a b x ha hb hx
    have h2 := anew_fall (n := n) (t := t) s i a
    omega

theorem LInv.new {K : Nat → Nat → Int} (hK : CostM n K) : LInv n t (LS.new t K) where
  cost := hK
  self := by show startF t t = 0; unfold startF; simp
  far i hi := startF_ranged t n i hi
  low i hi := ⟨(startF_ranged t n i hi).1, Int.le_refl _⟩
  hrd i k hi hk := ⟨(startF_ranged t n k hk).2, Int.le_refl _⟩
  way a b x _ _ hx := by cases hx
  few a b _ _ := Nat.zero_le _

theorem LInv.send (hI : LInv n t s) (a b : Int) : LInv n t (s.send n a b) := by
  unfold LS.send
  split
  · rename_i h
    obtain ⟨h1, h2⟩ := lsend_zero h
    obtain ⟨x, y, rfl, rfl, hx, hy, hne, hk⟩ := near_zero h1
    have e1 : ((x : Int)).toNat = x := by omega
    have e2 : ((y : Int)).toNat = y := by omega
    rw [e1, e2] at h2 ⊢
    refine ⟨hI.cost, hI.self, hI.far, hI.low, hI.hrd, fun a b z ha hb hz => ?_, fun a b ha hb => ?_⟩
    · have hz' : z ∈ (if a = x ∧ b = y then s.q x y ++ [s.f x] else s.q a b) := hz
      show s.e a ≤ z ∧ z ≤ 16
      split at hz'
      · rename_i e
        obtain ⟨rfl, rfl⟩ := e
        rcases List.mem_append.1 hz' with h | h
        · exact hI.way a b z ha hb h
        · have : z = s.f a := by simpa using h
          have h3 := hI.low a ha
          have h4 := hI.far a ha
          omega
      · exact hI.way a b z ha hb hz'
    · show (if a = x ∧ b = y then s.q x y ++ [s.f x] else s.q a b).length ≤ 20
      split
      · simp; omega
      · exact hI.few a b ha hb
  · exact hI

theorem LInv.come (hI : LInv n t s) {x y : Nat} (hx : x < n) (hy : y < n) (h : 0 < (s.q x y).length) : LInv n t (s.come x y) := by
  obtain ⟨d, l, hq⟩ : ∃ d l, s.q x y = d :: l := by
    cases hq : s.q x y with
    | nil => rw [hq] at h; simp at h
    | cons d l => exact ⟨d, l, rfl⟩
  have hfirst : s.first x y = d := by unfold LS.first; rw [hq]; rfl
  have hd := hI.way x y d hx hy (by rw [hq]; simp)
  refine ⟨hI.cost, hI.self, hI.far, hI.low, fun i k hi hk => ?_, fun a b z ha hb hz => ?_, fun a b ha hb => ?_⟩
  · show s.e k ≤ (if i = y ∧ k = x then s.first x y else s.h i k) ∧ (if i = y ∧ k = x then s.first x y else s.h i k) ≤ 16
    split
    · rename_i e
      obtain ⟨rfl, rfl⟩ := e
      rw [hfirst]; exact hd
    · exact hI.hrd i k hi hk
  · have hz' : z ∈ (if a = x ∧ b = y then (s.q x y).tail else s.q a b) := hz
    show s.e a ≤ z ∧ z ≤ 16
    split at hz'
    · rename_i e
      obtain ⟨rfl, rfl⟩ := e
      exact hI.way a b z ha hb (List.mem_of_mem_tail hz')
    · exact hI.way a b z ha hb hz'
  · show (if a = x ∧ b = y then (s.q x y).tail else s.q a b).length ≤ 20
    split
    · have := hI.few x y hx hy
      rw [List.length_tail]; omega
    · exact hI.few a b ha hb

theorem LInv.take (hI : LInv n t s) (a b : Int) : LInv n t (s.take n t a b) := by
  unfold LS.take
  split
  · rename_i h
    obtain ⟨h1, h2⟩ := ltake_zero h
    obtain ⟨x, y, rfl, rfl, hx, hy, hne, hk⟩ := near_zero h1
    have e1 : ((x : Int)).toNat = x := by omega
    have e2 : ((y : Int)).toNat = y := by omega
    rw [e1, e2] at h2 ⊢
    exact (hI.come hx hy h2).anew hy
  · exact hI

theorem LInv.dear (hI : LInv n t s) {x y : Nat} (hne : x ≠ y) (h1 : 1 ≤ c) (h2 : c ≤ 15) : LInv n t (s.dear x y c) := by
  have hC := hI.cost
  refine ⟨⟨fun i hi => ?_, fun i k hi hk hik => ?_, fun i k hi hk => ?_, fun i k hi hk => ?_⟩, hI.self, hI.far, hI.low, hI.hrd, hI.way, hI.few⟩
  · show (if i = y ∧ i = x then c else if i = x ∧ i = y then c else s.K i i) = 0
    rw [if_neg (by omega), if_neg (by omega)]
    exact hC.same i hi
  · show 1 ≤ (if i = y ∧ k = x then c else if i = x ∧ k = y then c else s.K i k)
    have := hC.low i k hi hk hik
    split
    · omega
    · split <;> omega
  · show (if i = y ∧ k = x then c else if i = x ∧ k = y then c else s.K i k) ≤ 16
    have := hC.high i k hi hk
    split
    · omega
    · split <;> omega
  · show (if i = y ∧ k = x then c else if i = x ∧ k = y then c else s.K i k) = (if k = y ∧ i = x then c else if k = x ∧ i = y then c else s.K k i)
    have := hC.back i k hi hk
    by_cases e1 : i = y ∧ k = x
    · rw [if_pos e1]
      by_cases e2 : k = y ∧ i = x
      · rw [if_pos e2]
      · rw [if_neg e2, if_pos ⟨e1.2, e1.1⟩]
    · rw [if_neg e1]
      by_cases e2 : i = x ∧ k = y
      · rw [if_pos e2, if_pos ⟨e2.2, e2.1⟩]
      · rw [if_neg e2, if_neg (fun h => e2 ⟨h.2, h.1⟩), if_neg (fun h => e1 ⟨h.2, h.1⟩)]
        exact this

theorem LInv.cost' (hI : LInv n t s) (a b c : Int) : LInv n t (s.cost n t a b c) := by
  unfold LS.cost
  split
  · rename_i h
    obtain ⟨h1, h2, h3⟩ := lcost_zero h
    obtain ⟨x, y, rfl, rfl, hx, hy, hne, hk⟩ := near_zero h1
    have e1 : ((x : Int)).toNat = x := by omega
    have e2 : ((y : Int)).toNat = y := by omega
    rw [e1, e2]
    exact ((hI.dear hne h2 h3).anew (by omega)).anew (by omega)
  · exact hI

theorem LInv.act (hI : LInv n t s) (o a b c : Int) : LInv n t (s.act n t o a b c) := by
  unfold LS.act
  split
  · exact hI.send a b
  · split
    · exact hI.take a b
    · exact hI.cost' a b c

/-- The least behind each act is the least of it and of what is thought now. -/
theorem LInv.act_min (hI : LInv n t s) (o a b c : Int) {x : Nat} (hx : x < n) : (s.act n t o a b c).e x = min (s.e x) ((s.act n t o a b c).f x) := by
  have h0 : s.e x = min (s.e x) (s.f x) := by rw [Int.min_eq_left (hI.low x hx).2]
  unfold LS.act
  split
  · unfold LS.send
    split
    · exact h0
    · exact h0
  · split
    · unfold LS.take
      split
      · exact anew_min (s.come a.toNat b.toNat) b.toNat (hI.low x hx).2
      · exact h0
    · unfold LS.cost
      split
      · rename_i h
        obtain ⟨h1, h2, h3⟩ := lcost_zero h
        obtain ⟨p, q, rfl, rfl, hp, hq, hne, hk⟩ := near_zero h1
        have e1 : ((p : Int)).toNat = p := by omega
        have e2 : ((q : Int)).toNat = q := by omega
        rw [e1, e2]
        have hd := (hI.dear hne h2 h3)
        by_cases e : x = (max (p : Int) q).toNat
        · have e' : x ≠ (min (p : Int) q).toNat := by omega
          obtain ⟨g1, g2⟩ := anew_other (n := n) (t := t) (s.dear p q c) e'
          rw [anew_min _ _ (by rw [g1, g2]; exact (hd.low x hx).2), g2]
          rfl
        · obtain ⟨g1, g2⟩ := anew_other (n := n) (t := t) ((s.dear p q c).anew n t (min (p : Int) q).toNat) e
          rw [g1, g2]
          exact anew_min (s.dear p q c) _ (hd.low x hx).2
      · exact h0

/-- How often a way was laid anew. -/
theorem act_c (s : LS) (o a b c : Int) : (s.act n t o a b c).c ≤ s.c + 1 := by
  unfold LS.act
  split
  · unfold LS.send
    split
    · exact Nat.le_refl _
    · exact Nat.le_succ _
  · split
    · unfold LS.take
      split
      · rw [anew_c]; exact Nat.le_refl _
      · exact Nat.le_succ _
    · unfold LS.cost
      split
      · rw [anew_c, anew_c]; exact Nat.le_succ _
      · exact Nat.le_succ _
end

end Go.Proofs.Ytlemmphnmklbeaa

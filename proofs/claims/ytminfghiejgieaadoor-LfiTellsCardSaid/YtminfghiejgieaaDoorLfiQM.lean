/- LfiQM: in one text: LfiLaw, QNexts, QAnew, WayM, LfiMem, LfiNear, LfiNexts, LfiAnew, LfiCost, QueL, LfiSend, LfiTake, LfiGrow, LfiNew, LfiNet, LfiQ. -/
import Derived.Test.YtminfghiejgieaaDoorHear
import Derived.Test.YtminfghiejgieaaDoorPick
import Derived.Test.YtminfghiejgieaaDoorQSimM
import Derived.Test.YtminfghiejgieaaDoorGraph
import Derived.Test.YtminfghiejgieaaDoorTouch
import Derived.WideKeyEntry
import Derived.Maps.Own
import Derived.Maps.OwnOps
import Derived.Maps.OwnSet
import Derived.Test.YtminfghiejgieaaDoorLab
import Derived.Test.YtminfghiejgieaaDoorOwnV
import Derived.Test.YtminfghiejgieaaDoorTail
import Derived.Test.YtminfghiejgieaaDoorCosts
import Derived.Deep.RegionHeld3
import Derived.Deep.Upon
import Derived.Test.YtminfghiejgieaaDoorRegTail
import Derived.Test.YtminfghiejgieaaDoorRepeat
import Derived.Test.YtminfghiejgieaaDoorTwo
import Derived.Deep.AppendLies
import Derived.Carry
import Derived.Test.YtminfghiejgieaaDoorBellFixed
import Derived.Test.YtminfghiejgieaaDoorInts
/- Never round: plain laws of what nodes think, and of the least that they thought. -/
namespace Go.Proofs.YtminfghiejgieaaDoor
open Go.RowKit
set_option linter.unusedVariables false

/-- What is thought, the least of it, what was heard, what is on each way, what links cost; how often a way was laid anew. -/
structure LS where
  f : Nat → Int
  e : Nat → Int
  h : Nat → Nat → Int
  q : Nat → Nat → List Int
  K : Nat → Nat → Int
  c : Nat

/-- Is k a next one of node i? -/
def LS.isN (s : LS) (n t i k : Nat) : Bool := decide (i ≠ t ∧ nearE n s.K i k = 0 ∧ s.h i k < s.e i)
/-- The next ones of node i. -/
def LS.nexts (s : LS) (n t i : Nat) : List Int := pickL (s.isN n t i) n
/-- The least by the first j of some. -/
def leastL (K h : Nat → Int) (l : List Int) : Nat → Int
  | 0 => 16
  | j + 1 => min (leastL K h l j) (K (atL l j).toNat + h (atL l j).toNat)
/-- What node i thinks anew. -/
def LS.newF (s : LS) (n t i : Nat) : Int := leastL (s.K i) (s.h i) (s.nexts n t i) (s.nexts n t i).length
def LS.anew (s : LS) (n t i : Nat) : LS :=
  if i = t then s else { s with f := upd s.f i (s.newF n t i), e := upd s.e i (min (s.e i) (s.newF n t i)) }

def LS.sendE (s : LS) (n : Nat) (a b : Int) : Int := if nearE n s.K a b = 0 ∧ 20 ≤ (s.q a.toNat b.toNat).length then 4 else nearE n s.K a b
def LS.takeE (s : LS) (n : Nat) (a b : Int) : Int := if nearE n s.K a b = 0 ∧ (s.q a.toNat b.toNat).length = 0 then 2 else nearE n s.K a b
def LS.costE (s : LS) (n : Nat) (a b c : Int) : Int := if nearE n s.K a b = 0 ∧ (c < 1 ∨ 15 < c) then 1 else nearE n s.K a b

/-- A way is another one. -/
def LS.way (s : LS) (a b : Nat) (l : List Int) : LS := { s with q := fun x y => if x = a ∧ y = b then l else s.q x y, c := s.c + 1 }
def LS.hear (s : LS) (b a : Nat) (d : Int) : LS := { s with h := fun x y => if x = b ∧ y = a then d else s.h x y }
def LS.put (s : LS) (a b : Nat) : LS := s.way a b (s.q a b ++ [s.f a])
def LS.first (s : LS) (a b : Nat) : Int := (s.q a b).headD 0
def LS.come (s : LS) (a b : Nat) : LS := (s.hear b a (s.first a b)).way a b (s.q a b).tail
/-- A cost is another one. -/
def LS.dear1 (s : LS) (a b : Nat) (c : Int) : LS := { s with K := fun x y => if x = a ∧ y = b then c else s.K x y }
def LS.dear (s : LS) (a b : Nat) (c : Int) : LS := (s.dear1 a b c).dear1 b a c

def LS.send (s : LS) (n : Nat) (a b : Int) : LS := if s.sendE n a b = 0 then s.put a.toNat b.toNat else s
def LS.take (s : LS) (n t : Nat) (a b : Int) : LS := if s.takeE n a b = 0 then (s.come a.toNat b.toNat).anew n t b.toNat else s
def LS.cost (s : LS) (n t : Nat) (a b c : Int) : LS :=
  if s.costE n a b c = 0 then ((s.dear a.toNat b.toNat c).anew n t (min a b).toNat).anew n t (max a b).toNat else s
/-- 0 sent, 1 taken, else a cost changes. -/
def LS.act (s : LS) (n t : Nat) (o a b c : Int) : LS := if o = 0 then s.send n a b else if o = 1 then s.take n t a b else s.cost n t a b c

def LS.new (t : Nat) (K : Nat → Nat → Int) : LS := ⟨startF t, startF t, fun _ _ => 16, fun _ _ => [], K, 0⟩

section
variable {K h : Nat → Int} {l : List Int} {p : Nat → Bool} {r : Nat}
theorem pick_at {j : Nat} (hj : j < (pickL p r).length) : ∃ v : Nat, atL (pickL p r) j = v ∧ v < r ∧ p v = true := by
  have hm : atL (pickL p r) j ∈ pickL p r := atL_mem.1 ⟨j, hj, rfl⟩
  obtain ⟨v, _, e⟩ := List.mem_map.1 (show atL (pickL p r) j ∈ ((List.range r).filter p).map (fun k : Nat => (k : Int)) from hm)
  rw [← e] at hm
  exact ⟨v, e.symm, pickL_mem.1 hm⟩
theorem least_le : ∀ j, leastL K h l j ≤ 16
  | 0 => Int.le_refl _
  | j + 1 => by
    have := least_le j
    show min (leastL K h l j) _ ≤ 16
    omega
theorem least_low {k : Nat} : ∀ j, k < j → leastL K h l j ≤ K (atL l k).toNat + h (atL l k).toNat
  | 0, hk => absurd hk (by omega)
  | j + 1, hk => by
    show min (leastL K h l j) (K (atL l j).toNat + h (atL l j).toNat) ≤ _
    by_cases e : k = j
    · subst e; omega
    · have := least_low (k := k) j (by omega)
      omega
theorem least_is : ∀ j, leastL K h l j = 16 ∨ ∃ k, k < j ∧ leastL K h l j = K (atL l k).toNat + h (atL l k).toNat
  | 0 => .inl rfl
  | j + 1 => by
    show min (leastL K h l j) (K (atL l j).toNat + h (atL l j).toNat) = 16 ∨ ∃ k, k < j + 1 ∧ min (leastL K h l j) (K (atL l j).toNat + h (atL l j).toNat) = _
    rcases Int.le_total (leastL K h l j) (K (atL l j).toNat + h (atL l j).toNat) with hle | hle
    · rw [Int.min_eq_left hle]
      rcases least_is j with e | ⟨k, hk, e⟩
      · exact .inl e
      · exact .inr ⟨k, by omega, e⟩
    · rw [Int.min_eq_right hle]
      exact .inr ⟨j, by omega, rfl⟩
end

/-- What a net keeps. -/
structure LInv (n t : Nat) (s : LS) : Prop where
  cost : CostM n s.K
  self : s.f t = 0
  far : ∀ i, i < n → 0 ≤ s.f i ∧ s.f i ≤ 16
  low : ∀ i, i < n → 0 ≤ s.e i ∧ s.e i ≤ s.f i
  hrd : ∀ i k, i < n → k < n → s.e k ≤ s.h i k ∧ s.h i k ≤ 16
  way : ∀ a b x, a < n → b < n → x ∈ s.q a b → s.e a ≤ x ∧ x ≤ 16
  few : ∀ a b, a < n → b < n → (s.q a b).length ≤ 20

section
variable {n t : Nat} {s : LS} {a b c : Int}
theorem lsend_zero (h : s.sendE n a b = 0) : nearE n s.K a b = 0 ∧ (s.q a.toNat b.toNat).length < 20 := by
  unfold LS.sendE at h
  split at h
  · omega
  · rename_i hc
    exact ⟨h, by
      rcases Nat.lt_or_ge (s.q a.toNat b.toNat).length 20 with h' | h'
      · exact h'
      · exact absurd ⟨h, h'⟩ hc⟩
theorem ltake_zero (h : s.takeE n a b = 0) : nearE n s.K a b = 0 ∧ 0 < (s.q a.toNat b.toNat).length := by
  unfold LS.takeE at h
  split at h
  · omega
  · rename_i hc
    exact ⟨h, by
      rcases Nat.eq_zero_or_pos (s.q a.toNat b.toNat).length with h' | h'
      · exact absurd ⟨h, h'⟩ hc
      · exact h'⟩
theorem lcost_zero (h : s.costE n a b c = 0) : nearE n s.K a b = 0 ∧ 1 ≤ c ∧ c ≤ 15 := by
  unfold LS.costE at h
  split at h
  · omega
  · rename_i hc
    exact ⟨h, by
      by_cases h' : c < 1 ∨ 15 < c
      · exact absurd ⟨h, h'⟩ hc
      · omega⟩

theorem LInv.hrd0 (hI : LInv n t s) {i k : Nat} (hi : i < n) (hk : k < n) : 0 ≤ s.h i k ∧ s.h i k ≤ 16 := by
  have h1 := hI.hrd i k hi hk
  have h2 := hI.low k hk
  omega
theorem LInv.way0 (hI : LInv n t s) {i k : Nat} {x : Int} (hi : i < n) (hk : k < n) (hx : x ∈ s.q i k) : 0 ≤ x ∧ x ≤ 16 := by
  have h1 := hI.way i k x hi hk hx
  have h2 := hI.low i hi
  omega
/-- A next one thought less, at its least. -/
theorem LInv.less (hI : LInv n t s) {i k : Nat} (hi : i < n) (hk : k < n) (h : s.isN n t i k = true) : s.e k < s.e i := by
  have h1 := hI.hrd i k hi hk
  have h2 := of_decide_eq_true h
  omega
theorem newF_bounds (hK : CostM n s.K) (hh : ∀ i k, i < n → k < n → 0 ≤ s.h i k) {i : Nat} (hi : i < n) : 0 ≤ s.newF n t i ∧ s.newF n t i ≤ 16 := by
  refine ⟨?_, least_le _⟩
  unfold LS.newF
  rcases least_is (K := s.K i) (h := s.h i) (l := s.nexts n t i) (s.nexts n t i).length with e | ⟨k, hk, e⟩
  · rw [e]; omega
  · rw [e]
    obtain ⟨v, hv, hvn, _⟩ := pick_at hk
    show 0 ≤ s.K i (atL (pickL (s.isN n t i) n) k).toNat + s.h i (atL (pickL (s.isN n t i) n) k).toNat
    rw [hv, show ((v : Int)).toNat = v by omega]
    have := hK.nonneg hi hvn
    have := hh i v hi hvn
    omega

theorem anew_q (s : LS) (i : Nat) : (s.anew n t i).q = s.q := by unfold LS.anew; split <;> rfl
theorem anew_h (s : LS) (i : Nat) : (s.anew n t i).h = s.h := by unfold LS.anew; split <;> rfl
theorem anew_K (s : LS) (i : Nat) : (s.anew n t i).K = s.K := by unfold LS.anew; split <;> rfl
theorem anew_c (s : LS) (i : Nat) : (s.anew n t i).c = s.c := by unfold LS.anew; split <;> rfl
theorem anew_self (s : LS) : s.anew n t t = s := if_pos rfl
theorem anew_other (s : LS) {i x : Nat} (h : x ≠ i) : (s.anew n t i).f x = s.f x ∧ (s.anew n t i).e x = s.e x := by
  unfold LS.anew
  split
  · exact ⟨rfl, rfl⟩
  · exact ⟨upd_other _ _ h, upd_other _ _ h⟩
theorem anew_at (s : LS) {i : Nat} (h : i ≠ t) : (s.anew n t i).f i = s.newF n t i ∧ (s.anew n t i).e i = min (s.e i) (s.newF n t i) := by
  unfold LS.anew
  rw [if_neg h]
  exact ⟨upd_same _ _ _, upd_same _ _ _⟩
/-- The least behind it. -/
theorem anew_min (s : LS) (i : Nat) {x : Nat} (he : s.e x ≤ s.f x) : (s.anew n t i).e x = min (s.e x) ((s.anew n t i).f x) := by
  by_cases hx : x = i
  · subst hx
    by_cases ht : x = t
    · subst ht; rw [anew_self, Int.min_eq_left he]
    · rw [(anew_at s ht).1, (anew_at s ht).2]
  · rw [(anew_other s hx).1, (anew_other s hx).2, Int.min_eq_left he]
theorem anew_fall (s : LS) (i x : Nat) : (s.anew n t i).e x ≤ s.e x := by
  by_cases hx : x = i
  · subst hx
    by_cases ht : x = t
    · subst ht; rw [anew_self]; exact Int.le_refl _
    · rw [(anew_at s ht).2]; omega
  · rw [(anew_other s hx).2]; exact Int.le_refl _

theorem LInv.anew (hI : LInv n t s) {i : Nat} (hi : i < n) : LInv n t (s.anew n t i) := by
  have hb := newF_bounds (t := t) hI.cost (fun i k hi hk => (hI.hrd0 hi hk).1) hi
  refine ⟨by rw [anew_K]; exact hI.cost, ?_, fun x hx => ?_, fun x hx => ?_, fun x k hx hk => ?_, fun a b x ha hb hx => ?_, fun a b ha hb => by rw [anew_q]; exact hI.few a b ha hb⟩
  · by_cases e : t = i
    · subst e; rw [anew_self]; exact hI.self
    · rw [(anew_other s e).1]; exact hI.self
  · by_cases e : x = i
    · subst e
      by_cases ht : x = t
      · subst ht; rw [anew_self]; exact hI.far x hx
      · rw [(anew_at s ht).1]; exact hb
    · rw [(anew_other s e).1]; exact hI.far x hx
  · rw [anew_min s i (hI.low x hx).2]
    have h1 := hI.low x hx
    refine ⟨?_, by omega⟩
    by_cases e : x = i
    · subst e
      by_cases ht : x = t
      · subst ht; rw [anew_self]; have := hI.far x hx; omega
      · rw [(anew_at s ht).1]; omega
    · rw [(anew_other s e).1]; have := hI.far x hx; omega
  · rw [anew_h]
    have h1 := hI.hrd x k hx hk
    have h2 := anew_fall (n := n) (t := t) s i k
    omega
  · rw [anew_q] at hx
    have h1 := hI.way a b x ha hb hx
    have h2 := anew_fall (n := n) (t := t) s i a
    omega

theorem LInv.new {K : Nat → Nat → Int} (hK : CostM n K) : LInv n t (LS.new t K) where
  cost := hK
  self := by show startF t t = 0; unfold startF; simp
  far i hi := startF_ranged t n i hi
  low i hi := ⟨(startF_ranged t n i hi).1, Int.le_refl _⟩
  hrd i k hi hk := ⟨(startF_ranged t n k hk).2, Int.le_refl _⟩
  way a b x _ _ hx := by cases hx
  few a b _ _ := Nat.zero_le _

theorem LInv.send (hI : LInv n t s) (a b : Int) : LInv n t (s.send n a b) := by
  unfold LS.send
  split
  · rename_i h
    obtain ⟨h1, h2⟩ := lsend_zero h
    obtain ⟨x, y, rfl, rfl, hx, hy, hne, hk⟩ := near_zero h1
    have e1 : ((x : Int)).toNat = x := by omega
    have e2 : ((y : Int)).toNat = y := by omega
    rw [e1, e2] at h2 ⊢
    refine ⟨hI.cost, hI.self, hI.far, hI.low, hI.hrd, fun a b z ha hb hz => ?_, fun a b ha hb => ?_⟩
    · have hz' : z ∈ (if a = x ∧ b = y then s.q x y ++ [s.f x] else s.q a b) := hz
      show s.e a ≤ z ∧ z ≤ 16
      split at hz'
      · rename_i e
        obtain ⟨rfl, rfl⟩ := e
        rcases List.mem_append.1 hz' with h | h
        · exact hI.way a b z ha hb h
        · have : z = s.f a := by simpa using h
          have h3 := hI.low a ha
          have h4 := hI.far a ha
          omega
      · exact hI.way a b z ha hb hz'
    · show (if a = x ∧ b = y then s.q x y ++ [s.f x] else s.q a b).length ≤ 20
      split
      · simp; omega
      · exact hI.few a b ha hb
  · exact hI

theorem LInv.come (hI : LInv n t s) {x y : Nat} (hx : x < n) (hy : y < n) (h : 0 < (s.q x y).length) : LInv n t (s.come x y) := by
  obtain ⟨d, l, hq⟩ : ∃ d l, s.q x y = d :: l := by
    cases hq : s.q x y with
    | nil => rw [hq] at h; simp at h
    | cons d l => exact ⟨d, l, rfl⟩
  have hfirst : s.first x y = d := by unfold LS.first; rw [hq]; rfl
  have hd := hI.way x y d hx hy (by rw [hq]; simp)
  refine ⟨hI.cost, hI.self, hI.far, hI.low, fun i k hi hk => ?_, fun a b z ha hb hz => ?_, fun a b ha hb => ?_⟩
  · show s.e k ≤ (if i = y ∧ k = x then s.first x y else s.h i k) ∧ (if i = y ∧ k = x then s.first x y else s.h i k) ≤ 16
    split
    · rename_i e
      obtain ⟨rfl, rfl⟩ := e
      rw [hfirst]; exact hd
    · exact hI.hrd i k hi hk
  · have hz' : z ∈ (if a = x ∧ b = y then (s.q x y).tail else s.q a b) := hz
    show s.e a ≤ z ∧ z ≤ 16
    split at hz'
    · rename_i e
      obtain ⟨rfl, rfl⟩ := e
      exact hI.way a b z ha hb (List.mem_of_mem_tail hz')
    · exact hI.way a b z ha hb hz'
  · show (if a = x ∧ b = y then (s.q x y).tail else s.q a b).length ≤ 20
    split
    · have := hI.few x y hx hy
      rw [List.length_tail]; omega
    · exact hI.few a b ha hb

theorem LInv.take (hI : LInv n t s) (a b : Int) : LInv n t (s.take n t a b) := by
  unfold LS.take
  split
  · rename_i h
    obtain ⟨h1, h2⟩ := ltake_zero h
    obtain ⟨x, y, rfl, rfl, hx, hy, hne, hk⟩ := near_zero h1
    have e1 : ((x : Int)).toNat = x := by omega
    have e2 : ((y : Int)).toNat = y := by omega
    rw [e1, e2] at h2 ⊢
    exact (hI.come hx hy h2).anew hy
  · exact hI

theorem LInv.dear (hI : LInv n t s) {x y : Nat} (hne : x ≠ y) (h1 : 1 ≤ c) (h2 : c ≤ 15) : LInv n t (s.dear x y c) := by
  have hC := hI.cost
  refine ⟨⟨fun i hi => ?_, fun i k hi hk hik => ?_, fun i k hi hk => ?_, fun i k hi hk => ?_⟩, hI.self, hI.far, hI.low, hI.hrd, hI.way, hI.few⟩
  · show (if i = y ∧ i = x then c else if i = x ∧ i = y then c else s.K i i) = 0
    rw [if_neg (by omega), if_neg (by omega)]
    exact hC.same i hi
  · show 1 ≤ (if i = y ∧ k = x then c else if i = x ∧ k = y then c else s.K i k)
    have := hC.low i k hi hk hik
    split
    · omega
    · split <;> omega
  · show (if i = y ∧ k = x then c else if i = x ∧ k = y then c else s.K i k) ≤ 16
    have := hC.high i k hi hk
    split
    · omega
    · split <;> omega
  · show (if i = y ∧ k = x then c else if i = x ∧ k = y then c else s.K i k) = (if k = y ∧ i = x then c else if k = x ∧ i = y then c else s.K k i)
    have := hC.back i k hi hk
    by_cases e1 : i = y ∧ k = x
    · rw [if_pos e1]
      by_cases e2 : k = y ∧ i = x
      · rw [if_pos e2]
      · rw [if_neg e2, if_pos ⟨e1.2, e1.1⟩]
    · rw [if_neg e1]
      by_cases e2 : i = x ∧ k = y
      · rw [if_pos e2, if_pos ⟨e2.2, e2.1⟩]
      · rw [if_neg e2, if_neg (fun h => e2 ⟨h.2, h.1⟩), if_neg (fun h => e1 ⟨h.2, h.1⟩)]
        exact this

theorem LInv.cost' (hI : LInv n t s) (a b c : Int) : LInv n t (s.cost n t a b c) := by
  unfold LS.cost
  split
  · rename_i h
    obtain ⟨h1, h2, h3⟩ := lcost_zero h
    obtain ⟨x, y, rfl, rfl, hx, hy, hne, hk⟩ := near_zero h1
    have e1 : ((x : Int)).toNat = x := by omega
    have e2 : ((y : Int)).toNat = y := by omega
    rw [e1, e2]
    exact ((hI.dear hne h2 h3).anew (by omega)).anew (by omega)
  · exact hI

theorem LInv.act (hI : LInv n t s) (o a b c : Int) : LInv n t (s.act n t o a b c) := by
  unfold LS.act
  split
  · exact hI.send a b
  · split
    · exact hI.take a b
    · exact hI.cost' a b c

/-- The least behind each act is the least of it and of what is thought now. -/
theorem LInv.act_min (hI : LInv n t s) (o a b c : Int) {x : Nat} (hx : x < n) : (s.act n t o a b c).e x = min (s.e x) ((s.act n t o a b c).f x) := by
  have h0 : s.e x = min (s.e x) (s.f x) := by rw [Int.min_eq_left (hI.low x hx).2]
  unfold LS.act
  split
  · unfold LS.send
    split
    · exact h0
    · exact h0
  · split
    · unfold LS.take
      split
      · exact anew_min (s.come a.toNat b.toNat) b.toNat (hI.low x hx).2
      · exact h0
    · unfold LS.cost
      split
      · rename_i h
        obtain ⟨h1, h2, h3⟩ := lcost_zero h
        obtain ⟨p, q, rfl, rfl, hp, hq, hne, hk⟩ := near_zero h1
        have e1 : ((p : Int)).toNat = p := by omega
        have e2 : ((q : Int)).toNat = q := by omega
        rw [e1, e2]
        have hd := (hI.dear hne h2 h3)
        by_cases e : x = (max (p : Int) q).toNat
        · have e' : x ≠ (min (p : Int) q).toNat := by omega
          obtain ⟨g1, g2⟩ := anew_other (n := n) (t := t) (s.dear p q c) e'
          rw [anew_min _ _ (by rw [g1, g2]; exact (hd.low x hx).2), g2]
          rfl
        · obtain ⟨g1, g2⟩ := anew_other (n := n) (t := t) ((s.dear p q c).anew n t (min (p : Int) q).toNat) e
          rw [g1, g2]
          exact anew_min (s.dear p q c) _ (hd.low x hx).2
      · exact h0

/-- How often a way was laid anew. -/
theorem act_c (s : LS) (o a b c : Int) : (s.act n t o a b c).c ≤ s.c + 1 := by
  unfold LS.act
  split
  · unfold LS.send
    split
    · exact Nat.le_refl _
    · exact Nat.le_succ _
  · split
    · unfold LS.take
      split
      · rw [anew_c]; exact Nat.le_refl _
      · exact Nat.le_succ _
    · unfold LS.cost
      split
      · rw [anew_c, anew_c]; exact Nat.le_succ _
      · exact Nat.le_succ _
end

end Go.Proofs.YtminfghiejgieaaDoor

/- The walk of the reference's Nexts. Printed by gen_qnexts.py. -/
namespace Go.Proofs.YtminfghiejgieaaDoor
open Go.RowKit
set_option linter.unusedVariables false

theorem wpAnyH_step {P : Program} {md : Region.Mode} {ops : Array Oper} {Q : Exit → Act → World → Prop} {S : World → Prop} {i : Nat} {oi : Oper} {n : Nat} {listed : Array Bool} {a : Act} {w : World} (hi : ops[i]? = some oi) (hr : Region.ready md ops listed = [i])
    (h : ∀ K : Act → World → Prop, Shut (∀ a' w', S w' → wpAnyH P md ops Q S n (listed.setIfInBounds i true) a' w' → K a' w') → if Region.wanted oi (yielded ops a.tmps) = true then Oper.wp P oi a w K Q else K (a.put oi.dst undef) w) : wpAnyH P md ops Q S (n + 1) listed a w :=
  ⟨fun e => (by rw [hr] at e; cases e), fun j hj => by
    rw [hr] at hj
    obtain rfl := List.mem_singleton.1 hj
    exact wpOp_step hi fun K hK => h K fun a' w' hS hW => hK a' w' ⟨hS, hW⟩⟩

theorem wpAnyH_stepw {P : Program} {md : Region.Mode} {ops : Array Oper} {Q : Exit → Act → World → Prop} {S : World → Prop} {i : Nat} {oi : Oper} {n : Nat} {listed : Array Bool} {a : Act} {w : World} (hi : ops[i]? = some oi) (hr : Region.ready md ops listed = [i]) (hw : Region.wanted oi (yielded ops a.tmps) = true)
    (h : ∀ K : Act → World → Prop, Shut (∀ a' w', S w' → wpAnyH P md ops Q S n (listed.setIfInBounds i true) a' w' → K a' w') → Oper.wp P oi a w K Q) : wpAnyH P md ops Q S (n + 1) listed a w :=
  wpAnyH_step hi hr fun K hK => by rw [if_pos hw]; exact h K hK
theorem wpAnyH_last {P : Program} {md : Region.Mode} {ops : Array Oper} {Q : Exit → Act → World → Prop} {S : World → Prop} {l : Nat} {oi : Oper} {n : Nat} {listed : Array Bool} {a : Act} {w : World} (hi : ops[l]? = some oi) (hr : Region.ready md ops listed = [l]) (hr' : Region.ready md ops (listed.setIfInBounds l true) = [])
    (h : ∀ K : Act → World → Prop, Shut (∀ a' w', S w' → Q .normal a' w' → K a' w') → if Region.wanted oi (yielded ops a.tmps) = true then Oper.wp P oi a w K Q else K (a.put oi.dst undef) w) : wpAnyH P md ops Q S (n + 1) listed a w :=
  wpAnyH_step hi hr fun K hK => h K fun a' w' hS hq => hK a' w' hS (wpAnyH_done hr' hq _)
theorem wpAnyH_tk {P : Program} {md : Region.Mode} {ops : Array Oper} {Q : Exit → Act → World → Prop} {S : World → Prop} {i : Nat} {oi : Oper} {v : Value} {n : Nat} {listed : Array Bool} {a : Act} {w : World} (hi : ops[i]? = some oi)
    (hs : Region.noSelect ops = true) (hf : Region.free md ops listed i = true) (hr : (Region.ready md ops listed).contains i = true)
    (hQ : ∀ c a w, Q (.panic c) (a.put oi.dst v) w → Q (.panic c) a w) (hS : S w) (hy : ∀ w', S w' → (execOp a.eval oi).run P w' = .ok (.value v) w') (hw : Region.wanted oi (yielded ops a.tmps) = true)
    (h : wpAnyH P md ops Q S n (listed.setIfInBounds i true) (a.put oi.dst v) w) : wpAnyH P md ops Q S (n + 1) listed a w :=
  wpAnyH_take hi hs hf hr hQ (.inl ⟨hw, hy⟩) hS h
theorem wpAnyH_skip {P : Program} {md : Region.Mode} {ops : Array Oper} {Q : Exit → Act → World → Prop} {S : World → Prop} {i : Nat} {oi : Oper} {n : Nat} {listed : Array Bool} {a : Act} {w : World} (hi : ops[i]? = some oi)
    (hs : Region.noSelect ops = true) (hf : Region.free md ops listed i = true) (hr : (Region.ready md ops listed).contains i = true)
    (hQ : ∀ c a w, Q (.panic c) (a.put oi.dst undef) w → Q (.panic c) a w) (hS : S w) (hw : Region.wanted oi (yielded ops a.tmps) = false)
    (h : wpAnyH P md ops Q S n (listed.setIfInBounds i true) (a.put oi.dst undef) w) : wpAnyH P md ops Q S (n + 1) listed a w :=
  wpAnyH_take hi hs hf hr hQ (.inr ⟨hw, rfl⟩) hS h

/-- Which are next ones. -/
def nxB (n t : Nat) (K h : Nat → Nat → Int) (e : Nat → Int) (i k : Nat) : Bool := decide (i ≠ t ∧ nearE n K i k = 0 ∧ h i k < e i)
/-- What the asking region reads. -/
def NxtS (b : Nat) (v : Array Value) (AH AL A1 : Addr) (n q i k : Nat) (d ee : Int) (w : World) : Prop := CopyS b v w ∧ w.cell? (AH.add i) = some (.slice (some A1) n q) ∧ w.cell? (A1.add k) = some (.int .i64 d) ∧ w.cell? (AL.add i) = some (.int .i64 ee)
theorem NxtS.below {b : Nat} {v : Array Value} {AH AL A1 : Addr} {n q i k : Nat} {d ee : Int} {w w' : World} (h : NxtS b v AH AL A1 n q i k d ee w) (hb : Below w.heap.size w w') : NxtS b v AH AL A1 n q i k d ee w' :=
  ⟨h.1.below hb, (hb.cell (World.block_lt_of_cell? w _ h.2.1)).trans h.2.1, (hb.cell (World.block_lt_of_cell? w _ h.2.2.1)).trans h.2.2.1, (hb.cell (World.block_lt_of_cell? w _ h.2.2.2)).trans h.2.2.2⟩

set_option maxRecDepth 100000 in
set_option maxHeartbeats 8000000 in
theorem qNexts (P : Nat → Prop) (v : Array Value) (n t : Nat) (K h : Nat → Nat → Int) (f e : Nat → Int) (W : WayL) (i : Nat) (w : World) (q : QR P w v n t K h f e W) (h8 : n ≤ 8) (hi : i < n) :
    Calls Tryd.prog 33 #[.agg v, .int .i64 i] w fun e' w' => ∃ u, e' = .returned u ∧ OwnV w' w.heap.size u (pickL (nxB n t K h e i) n).length (atL (pickL (nxB n t K h e i) n)) ∧ Below w.heap.size w w' := by
  have HQ := Lib.hid q
  obtain ⟨AC, cC, AW, cW, AH, cH, AF, cF, AL, cL, rfl, hK, hW, hWn, hH, hF, hE⟩ := q
  have h8' : (n : Int) ≤ 8 := by omega
  have hi' : (i : Int) < n := by omega
  have hb1 : Below w.heap.size w (w.alloc (.cells #[.int .i64 t, .slice (some AC) n cC, .slice AW W.length cW, .slice (some AH) n cH, .slice (some AF) n cF, .slice (some AL) n cL] 37)) := (Below.refl _ _).alloc (Nat.le_refl _) _
  have HB1 := Lib.hid hb1
  have HX1 := Lib.hid (Blk.new w 37 #[.int .i64 t, .slice (some AC) n cC, .slice AW W.length cW, .slice (some AH) n cH, .slice (some AF) n cF, .slice (some AL) n cL])
  obtain ⟨aH, A1, q1, eA, -, hHl, r1, hv1⟩ := hH i hi
  simp only [Option.some.injEq] at eA
  subst eA
  have HR1 := Lib.hid r1
  have HV1 := Lib.hid hv1.vec
  have HE := Lib.hid hE.vec
  clear hK hW hWn hF hE hb1 hv1 r1 hH
  obtain ⟨p, hp⟩ : ∃ p, nxB n t K h e i = p := ⟨_, rfl⟩
  have HPE := Lib.hid hp
  rw [hp]
  clear hp
  go_enter Tryd.func33, Tryd.ntmps33
  go_wp2_with fail
  obtain ⟨w1, hw1⟩ : ∃ w1, w.alloc (.cells #[.int .i64 t, .slice (some AC) n cC, .slice AW W.length cW, .slice (some AH) n cH, .slice (some AF) n cF, .slice (some AL) n cL] 37) = w1 := ⟨_, rfl⟩
  rw [hw1] at HB1 HX1 ⊢
  have hz1 : w1.heap.size = w.heap.size + 1 := by rw [← hw1]; simp
  have HZ1 := Lib.hid hz1
  clear hw1 hz1
  go_loopw [5, 6] (fun u q wr => ∃ k : Nat, k ≤ n ∧ q = .int .i64 k ∧ OwnV wr w1.heap.size u (pickL p k).length (atL (pickL p k)) ∧ Below w1.heap.size w1 wr) (fun _ q _ => n - (intOf q).toNat)
  case atStart => exact ⟨0, by omega, rfl, OwnV.nil _ _ _, Below.refl _ _⟩
  case round =>
    obtain ⟨k, hk, rfl, hu, hb⟩ := hrel
    have HU := Lib.hid hu
    have HB := Lib.hid hb
    have HBW := Lib.hid (keep HB1.out hb)
    have hlen := pickL_len p k
    have hxr : Blk wr w.heap.size 37 _ := (hb.block _ HX1.out.lt).trans HX1.out
    have j4 : wr.cell? ⟨w.heap.size, 4, none⟩ = some (.slice (some AF) n cF) := hxr.cell 4
    by_cases hkn : k < n
    · have hkn' : (k : Int) < n := by omega
      obtain ⟨a1, e1, hal, r2⟩ := HV1.out k hkn
      obtain rfl := e1
      obtain ⟨a3, e3, hll, r3⟩ := HE.out i hi
      simp only [Option.some.injEq] at e3
      subst e3
      obtain ⟨d, hd⟩ : ∃ d, h i k = d := ⟨_, rfl⟩
      obtain ⟨ee, hee⟩ : ∃ ee, e i = ee := ⟨_, rfl⟩
      obtain ⟨en, hen⟩ : ∃ en, nearE n K i k = en := ⟨_, rfl⟩
      rw [hd] at r2
      rw [hee] at r3
      have HPV : Hid (p k = decide (i ≠ t ∧ en = 0 ∧ d < ee)) := by
        rw [← HPE.out]
        unfold nxB
        rw [hd, hee, hen]
        exact Lib.hid rfl
      have hs0 : NxtS w.heap.size #[.int .i64 t, .slice (some AC) n cC, .slice AW W.length cW, .slice (some AH) n cH, .slice (some AF) n cF, .slice (some AL) n cL] AH AL a1 n q1 i k d ee wr :=
        ⟨⟨hxr.cell 0, hxr.cell 1, hxr.cell 2, hxr.cell 3, hxr.cell 4, hxr.cell 5⟩, (HBW.out.cell (p := AH.add i) (by rw [block_of_add]; exact hHl)).trans HR1.out, (HBW.out.cell (p := a1.add k) (by rw [block_of_add]; exact hal)).trans r2, (HBW.out.cell (p := AL.add i) (by rw [block_of_add]; exact hll)).trans r3⟩
      have HS0 : Hid (NxtS w.heap.size #[.int .i64 t, .slice (some AC) n cC, .slice AW W.length cW, .slice (some AH) n cH, .slice (some AF) n cF, .slice (some AL) n cL] AH AL a1 n q1 i k d ee wr.drew) := hs0
      have hq := qNear P _ n t K h f e W i k wr.drew (HQ.out.below HBW.out.drew) h8
      rw [hen] at hq
      have HC := Lib.hid hq
      clear hq hs0 r2 r3 hd hee hal hll hxr hu hb HR1
      by_cases hit : i = t
      · have b1 : ((i : Int) != (t : Int)) = false := by simp [hit]
        have b2 : (i != t) = false := by simp [hit]
        have HPN : Hid (p k = false) := Lib.hid (HPV.out.trans (decide_eq_false fun h => h.1 hit))
        clear hit
        go_wp2_with fail
        refine wp_region_held (S := NxtS w.heap.size #[.int .i64 t, .slice (some AC) n cC, .slice AW W.length cW, .slice (some AH) n cH, .slice (some AF) n cF, .slice (some AL) n cL] AH AL a1 n q1 i k d ee) (by kernel_rfl) ?_
        refine wpAnyH_tk (i := 0) (v := ?_) rfl (by kernel_rfl) (by kernel_rfl) (by kernel_rfl) (fun _ _ _ h => h) HS0.out ?_ (by kernel_rfl) ?_
        rotate_left 1
        · intro w0 hS0
          obtain ⟨⟨s0, s1, s2, s3, s4, s5⟩, s6, s7, s8⟩ := hS0
          go_simp
          try with_reducible rfl
        try simp only [Act.put, List.setIfInBounds_toArray]
        refine wpAnyH_tk (i := 1) (v := ?_) rfl (by kernel_rfl) (by kernel_rfl) (by kernel_rfl) (fun _ _ _ h => h) HS0.out ?_ (by kernel_rfl) ?_
        rotate_left 1
        · intro w0 hS0
          obtain ⟨⟨s0, s1, s2, s3, s4, s5⟩, s6, s7, s8⟩ := hS0
          go_simp
          try with_reducible rfl
        try simp only [Act.put]
        refine wpAnyH_tk (i := 2) (v := ?_) rfl (by kernel_rfl) (by kernel_rfl) (by kernel_rfl) (fun _ _ _ h => h) HS0.out ?_ (by kernel_rfl) ?_
        rotate_left 1
        · intro w0 hS0
          obtain ⟨⟨s0, s1, s2, s3, s4, s5⟩, s6, s7, s8⟩ := hS0
          go_simp
          try with_reducible rfl
        try simp only [Act.put]
        refine wpAnyH_tk (i := 3) (v := ?_) rfl (by kernel_rfl) (by kernel_rfl) (by kernel_rfl) (fun _ _ _ h => h) HS0.out ?_ (by kernel_rfl) ?_
        rotate_left 1
        · intro w0 hS0
          obtain ⟨⟨s0, s1, s2, s3, s4, s5⟩, s6, s7, s8⟩ := hS0
          go_simp
          try with_reducible rfl
        try simp only [Act.put]
        refine wpAnyH_tk (i := 4) (v := ?_) rfl (by kernel_rfl) (by kernel_rfl) (by kernel_rfl) (fun _ _ _ h => h) HS0.out ?_ (by kernel_rfl) ?_
        rotate_left 1
        · intro w0 hS0
          obtain ⟨⟨s0, s1, s2, s3, s4, s5⟩, s6, s7, s8⟩ := hS0
          go_simp
          try with_reducible rfl
        try simp only [Act.put]
        refine wpAnyH_skip (i := 5) rfl (by kernel_rfl) (by kernel_rfl) (by kernel_rfl) (fun _ _ _ h => h) HS0.out (by kernel_rfl) ?_
        try simp only [Act.put]
        refine wpAnyH_skip (i := 6) rfl (by kernel_rfl) (by kernel_rfl) (by kernel_rfl) (fun _ _ _ h => h) HS0.out (by kernel_rfl) ?_
        try simp only [Act.put]
        refine wpAnyH_skip (i := 7) rfl (by kernel_rfl) (by kernel_rfl) (by kernel_rfl) (fun _ _ _ h => h) HS0.out (by kernel_rfl) ?_
        try simp only [Act.put]
        refine wpAnyH_skip (i := 8) rfl (by kernel_rfl) (by kernel_rfl) (by kernel_rfl) (fun _ _ _ h => h) HS0.out (by kernel_rfl) ?_
        try simp only [Act.put]
        refine wpAnyH_skip (i := 9) rfl (by kernel_rfl) (by kernel_rfl) (by kernel_rfl) (fun _ _ _ h => h) HS0.out (by kernel_rfl) ?_
        try simp only [Act.put]
        refine wpAnyH_tk (i := 10) (v := ?_) rfl (by kernel_rfl) (by kernel_rfl) (by kernel_rfl) (fun _ _ _ h => h) HS0.out ?_ (by kernel_rfl) ?_
        rotate_left 1
        · intro w0 hS0
          obtain ⟨⟨s0, s1, s2, s3, s4, s5⟩, s6, s7, s8⟩ := hS0
          go_simp
          try with_reducible rfl
        try simp only [Act.put]
        refine wpAnyH_tk (i := 11) (v := ?_) rfl (by kernel_rfl) (by kernel_rfl) (by kernel_rfl) (fun _ _ _ h => h) HS0.out ?_ (by kernel_rfl) ?_
        rotate_left 1
        · intro w0 hS0
          obtain ⟨⟨s0, s1, s2, s3, s4, s5⟩, s6, s7, s8⟩ := hS0
          go_simp
          try with_reducible rfl
        try simp only [Act.put]
        refine wpAnyH_skip (i := 12) rfl (by kernel_rfl) (by kernel_rfl) (by kernel_rfl) (fun _ _ _ h => h) HS0.out (by kernel_rfl) ?_
        try simp only [Act.put]
        refine wpAnyH_skip (i := 13) rfl (by kernel_rfl) (by kernel_rfl) (by kernel_rfl) (fun _ _ _ h => h) HS0.out (by kernel_rfl) ?_
        try simp only [Act.put]
        refine wpAnyH_skip (i := 14) rfl (by kernel_rfl) (by kernel_rfl) (by kernel_rfl) (fun _ _ _ h => h) HS0.out (by kernel_rfl) ?_
        try simp only [Act.put]
        refine wpAnyH_skip (i := 15) rfl (by kernel_rfl) (by kernel_rfl) (by kernel_rfl) (fun _ _ _ h => h) HS0.out (by kernel_rfl) ?_
        try simp only [Act.put]
        refine wpAnyH_skip (i := 16) rfl (by kernel_rfl) (by kernel_rfl) (by kernel_rfl) (fun _ _ _ h => h) HS0.out (by kernel_rfl) ?_
        try simp only [Act.put]
        refine wpAnyH_skip (i := 17) rfl (by kernel_rfl) (by kernel_rfl) (by kernel_rfl) (fun _ _ _ h => h) HS0.out (by kernel_rfl) ?_
        try simp only [Act.put]
        refine wpAnyH_skip (i := 18) rfl (by kernel_rfl) (by kernel_rfl) (by kernel_rfl) (fun _ _ _ h => h) HS0.out (by kernel_rfl) ?_
        try simp only [Act.put]
        refine wpAnyH_skip (i := 19) rfl (by kernel_rfl) (by kernel_rfl) (by kernel_rfl) (fun _ _ _ h => h) HS0.out (by kernel_rfl) ?_
        try simp only [Act.put]
        refine wpAnyH_skip (i := 20) rfl (by kernel_rfl) (by kernel_rfl) (by kernel_rfl) (fun _ _ _ h => h) HS0.out (by kernel_rfl) ?_
        try simp only [Act.put]
        refine wpAnyH_skip (i := 21) rfl (by kernel_rfl) (by kernel_rfl) (by kernel_rfl) (fun _ _ _ h => h) HS0.out (by kernel_rfl) ?_
        try simp only [Act.put]
        refine wpAnyH_skip (i := 22) rfl (by kernel_rfl) (by kernel_rfl) (by kernel_rfl) (fun _ _ _ h => h) HS0.out (by kernel_rfl) ?_
        try simp only [Act.put]
        refine wpAnyH_skip (i := 23) rfl (by kernel_rfl) (by kernel_rfl) (by kernel_rfl) (fun _ _ _ h => h) HS0.out (by kernel_rfl) ?_
        try simp only [Act.put]
        refine wpAnyH_skip (i := 24) rfl (by kernel_rfl) (by kernel_rfl) (by kernel_rfl) (fun _ _ _ h => h) HS0.out (by kernel_rfl) ?_
        try simp only [Act.put]
        refine wpAnyH_skip (i := 25) rfl (by kernel_rfl) (by kernel_rfl) (by kernel_rfl) (fun _ _ _ h => h) HS0.out (by kernel_rfl) ?_
        try simp only [Act.put]
        refine wpAnyH_last (l := 26) rfl (by kernel_rfl) (by kernel_rfl) (fun K hK => ?_)
        go_simp
        refine hK.out _ _ HS0.out ?_
        clear hK K
        go_wp2_with fail
        go_roundw
        case rel => exact ⟨k + 1, by omega, by go_num, by rw [pickL_no HPN.out]; exact HU.out.drewN 1, below_drewN HB.out 1⟩
        case measure => simp [intOf]; omega
      · have b1 : ((i : Int) != (t : Int)) = true := bne_iff_ne.2 (by omega)
        have b2 : (i != t) = true := bne_iff_ne.2 hit
        by_cases h0 : en = 0
        · subst h0
          by_cases hlt : d < ee
          · have b3 : decide (d < ee) = true := decide_eq_true hlt
            have HPY : Hid (p k = true) := Lib.hid (HPV.out.trans (decide_eq_true ⟨hit, rfl, hlt⟩))
            clear hit hlt
            go_wp2_with fail
            refine wp_region_held (S := NxtS w.heap.size #[.int .i64 t, .slice (some AC) n cC, .slice AW W.length cW, .slice (some AH) n cH, .slice (some AF) n cF, .slice (some AL) n cL] AH AL a1 n q1 i k d ee) (by kernel_rfl) ?_
            refine wpAnyH_tk (i := 0) (v := ?_) rfl (by kernel_rfl) (by kernel_rfl) (by kernel_rfl) (fun _ _ _ h => h) HS0.out ?_ (by kernel_rfl) ?_
            rotate_left 1
            · intro w0 hS0
              obtain ⟨⟨s0, s1, s2, s3, s4, s5⟩, s6, s7, s8⟩ := hS0
              go_simp
              try with_reducible rfl
            try simp only [Act.put, List.setIfInBounds_toArray]
            refine wpAnyH_tk (i := 1) (v := ?_) rfl (by kernel_rfl) (by kernel_rfl) (by kernel_rfl) (fun _ _ _ h => h) HS0.out ?_ (by kernel_rfl) ?_
            rotate_left 1
            · intro w0 hS0
              obtain ⟨⟨s0, s1, s2, s3, s4, s5⟩, s6, s7, s8⟩ := hS0
              go_simp
              try with_reducible rfl
            try simp only [Act.put]
            refine wpAnyH_tk (i := 2) (v := ?_) rfl (by kernel_rfl) (by kernel_rfl) (by kernel_rfl) (fun _ _ _ h => h) HS0.out ?_ (by kernel_rfl) ?_
            rotate_left 1
            · intro w0 hS0
              obtain ⟨⟨s0, s1, s2, s3, s4, s5⟩, s6, s7, s8⟩ := hS0
              go_simp
              try with_reducible rfl
            try simp only [Act.put]
            refine wpAnyH_tk (i := 3) (v := ?_) rfl (by kernel_rfl) (by kernel_rfl) (by kernel_rfl) (fun _ _ _ h => h) HS0.out ?_ (by kernel_rfl) ?_
            rotate_left 1
            · intro w0 hS0
              obtain ⟨⟨s0, s1, s2, s3, s4, s5⟩, s6, s7, s8⟩ := hS0
              go_simp
              try with_reducible rfl
            try simp only [Act.put]
            refine wpAnyH_tk (i := 4) (v := ?_) rfl (by kernel_rfl) (by kernel_rfl) (by kernel_rfl) (fun _ _ _ h => h) HS0.out ?_ (by kernel_rfl) ?_
            rotate_left 1
            · intro w0 hS0
              obtain ⟨⟨s0, s1, s2, s3, s4, s5⟩, s6, s7, s8⟩ := hS0
              go_simp
              try with_reducible rfl
            try simp only [Act.put]
            refine wpAnyH_tk (i := 5) (v := ?_) rfl (by kernel_rfl) (by kernel_rfl) (by kernel_rfl) (fun _ _ _ h => h) HS0.out ?_ (by kernel_rfl) ?_
            rotate_left 1
            · intro w0 hS0
              obtain ⟨⟨s0, s1, s2, s3, s4, s5⟩, s6, s7, s8⟩ := hS0
              go_simp
              try with_reducible rfl
            try simp only [Act.put]
            refine wpAnyH_tk (i := 6) (v := ?_) rfl (by kernel_rfl) (by kernel_rfl) (by kernel_rfl) (fun _ _ _ h => h) HS0.out ?_ (by kernel_rfl) ?_
            rotate_left 1
            · intro w0 hS0
              obtain ⟨⟨s0, s1, s2, s3, s4, s5⟩, s6, s7, s8⟩ := hS0
              go_simp
              try with_reducible rfl
            try simp only [Act.put]
            refine wpAnyH_tk (i := 7) (v := ?_) rfl (by kernel_rfl) (by kernel_rfl) (by kernel_rfl) (fun _ _ _ h => h) HS0.out ?_ (by kernel_rfl) ?_
            rotate_left 1
            · intro w0 hS0
              obtain ⟨⟨s0, s1, s2, s3, s4, s5⟩, s6, s7, s8⟩ := hS0
              go_simp
              try with_reducible rfl
            try simp only [Act.put]
            refine wpAnyH_stepw (i := 8) rfl (by kernel_rfl) (by kernel_rfl) (fun K hK => ?_)
            refine wp_call_fns #[.tmp 19, .tmp 20, .tmp 21] rfl Tryd.func12 (by kernel_rfl) (by kernel_rfl) (vs := #[.agg #[.int .i64 t, .slice (some AC) n cC, .slice AW W.length cW, .slice (some AH) n cH, .slice (some AF) n cF, .slice (some AL) n cL], .int .i64 i, .int .i64 k]) (by kernel_rfl) ?_
            refine HC.out.mono ?_
            rintro e9 w9 ⟨rfl, hb9⟩
            have HS9 := Lib.hid (HS0.out.below hb9)
            have HB9 : Hid (Below w1.heap.size w1 w9) := Lib.hid (HB.out.drew.trans (hb9.mono HB.out.size))
            have HU9 : Hid (OwnV w9 w1.heap.size _ _ _) := Lib.hid (HU.out.drew.below hb9)
            clear hb9 HC
            refine ⟨_, rfl, hK.out _ _ HS9.out ?_⟩
            clear hK K
            try simp only [Act.put]
            refine wpAnyH_tk (i := 9) (v := ?_) rfl (by kernel_rfl) (by kernel_rfl) (by kernel_rfl) (fun _ _ _ h => h) HS9.out ?_ (by kernel_rfl) ?_
            rotate_left 1
            · intro w0 hS0
              obtain ⟨⟨s0, s1, s2, s3, s4, s5⟩, s6, s7, s8⟩ := hS0
              go_simp
              try with_reducible rfl
            try simp only [Act.put]
            refine wpAnyH_tk (i := 10) (v := ?_) rfl (by kernel_rfl) (by kernel_rfl) (by kernel_rfl) (fun _ _ _ h => h) HS9.out ?_ (by kernel_rfl) ?_
            rotate_left 1
            · intro w0 hS0
              obtain ⟨⟨s0, s1, s2, s3, s4, s5⟩, s6, s7, s8⟩ := hS0
              go_simp
              try with_reducible rfl
            try simp only [Act.put]
            refine wpAnyH_tk (i := 11) (v := ?_) rfl (by kernel_rfl) (by kernel_rfl) (by kernel_rfl) (fun _ _ _ h => h) HS9.out ?_ (by kernel_rfl) ?_
            rotate_left 1
            · intro w0 hS0
              obtain ⟨⟨s0, s1, s2, s3, s4, s5⟩, s6, s7, s8⟩ := hS0
              go_simp
              try with_reducible rfl
            try simp only [Act.put]
            refine wpAnyH_tk (i := 12) (v := ?_) rfl (by kernel_rfl) (by kernel_rfl) (by kernel_rfl) (fun _ _ _ h => h) HS9.out ?_ (by kernel_rfl) ?_
            rotate_left 1
            · intro w0 hS0
              obtain ⟨⟨s0, s1, s2, s3, s4, s5⟩, s6, s7, s8⟩ := hS0
              go_simp
              try with_reducible rfl
            try simp only [Act.put]
            refine wpAnyH_tk (i := 13) (v := ?_) rfl (by kernel_rfl) (by kernel_rfl) (by kernel_rfl) (fun _ _ _ h => h) HS9.out ?_ (by kernel_rfl) ?_
            rotate_left 1
            · intro w0 hS0
              obtain ⟨⟨s0, s1, s2, s3, s4, s5⟩, s6, s7, s8⟩ := hS0
              go_simp
              try with_reducible rfl
            try simp only [Act.put]
            refine wpAnyH_tk (i := 14) (v := ?_) rfl (by kernel_rfl) (by kernel_rfl) (by kernel_rfl) (fun _ _ _ h => h) HS9.out ?_ (by kernel_rfl) ?_
            rotate_left 1
            · intro w0 hS0
              obtain ⟨⟨s0, s1, s2, s3, s4, s5⟩, s6, s7, s8⟩ := hS0
              go_simp
              try with_reducible rfl
            try simp only [Act.put]
            refine wpAnyH_tk (i := 15) (v := ?_) rfl (by kernel_rfl) (by kernel_rfl) (by kernel_rfl) (fun _ _ _ h => h) HS9.out ?_ (by kernel_rfl) ?_
            rotate_left 1
            · intro w0 hS0
              obtain ⟨⟨s0, s1, s2, s3, s4, s5⟩, s6, s7, s8⟩ := hS0
              go_simp
              try with_reducible rfl
            try simp only [Act.put]
            refine wpAnyH_tk (i := 16) (v := ?_) rfl (by kernel_rfl) (by kernel_rfl) (by kernel_rfl) (fun _ _ _ h => h) HS9.out ?_ (by kernel_rfl) ?_
            rotate_left 1
            · intro w0 hS0
              obtain ⟨⟨s0, s1, s2, s3, s4, s5⟩, s6, s7, s8⟩ := hS0
              go_simp
              try with_reducible rfl
            try simp only [Act.put]
            refine wpAnyH_tk (i := 17) (v := ?_) rfl (by kernel_rfl) (by kernel_rfl) (by kernel_rfl) (fun _ _ _ h => h) HS9.out ?_ (by kernel_rfl) ?_
            rotate_left 1
            · intro w0 hS0
              obtain ⟨⟨s0, s1, s2, s3, s4, s5⟩, s6, s7, s8⟩ := hS0
              go_simp
              try with_reducible rfl
            try simp only [Act.put]
            refine wpAnyH_tk (i := 18) (v := ?_) rfl (by kernel_rfl) (by kernel_rfl) (by kernel_rfl) (fun _ _ _ h => h) HS9.out ?_ (by kernel_rfl) ?_
            rotate_left 1
            · intro w0 hS0
              obtain ⟨⟨s0, s1, s2, s3, s4, s5⟩, s6, s7, s8⟩ := hS0
              go_simp
              try with_reducible rfl
            try simp only [Act.put]
            refine wpAnyH_tk (i := 19) (v := ?_) rfl (by kernel_rfl) (by kernel_rfl) (by kernel_rfl) (fun _ _ _ h => h) HS9.out ?_ (by kernel_rfl) ?_
            rotate_left 1
            · intro w0 hS0
              obtain ⟨⟨s0, s1, s2, s3, s4, s5⟩, s6, s7, s8⟩ := hS0
              go_simp
              try with_reducible rfl
            try simp only [Act.put]
            refine wpAnyH_tk (i := 20) (v := ?_) rfl (by kernel_rfl) (by kernel_rfl) (by kernel_rfl) (fun _ _ _ h => h) HS9.out ?_ (by kernel_rfl) ?_
            rotate_left 1
            · intro w0 hS0
              obtain ⟨⟨s0, s1, s2, s3, s4, s5⟩, s6, s7, s8⟩ := hS0
              go_simp
              try with_reducible rfl
            try simp only [Act.put]
            refine wpAnyH_tk (i := 21) (v := ?_) rfl (by kernel_rfl) (by kernel_rfl) (by kernel_rfl) (fun _ _ _ h => h) HS9.out ?_ (by kernel_rfl) ?_
            rotate_left 1
            · intro w0 hS0
              obtain ⟨⟨s0, s1, s2, s3, s4, s5⟩, s6, s7, s8⟩ := hS0
              go_simp
              try with_reducible rfl
            try simp only [Act.put]
            refine wpAnyH_tk (i := 22) (v := ?_) rfl (by kernel_rfl) (by kernel_rfl) (by kernel_rfl) (fun _ _ _ h => h) HS9.out ?_ (by kernel_rfl) ?_
            rotate_left 1
            · intro w0 hS0
              obtain ⟨⟨s0, s1, s2, s3, s4, s5⟩, s6, s7, s8⟩ := hS0
              go_simp
              try with_reducible rfl
            try simp only [Act.put]
            refine wpAnyH_tk (i := 23) (v := ?_) rfl (by kernel_rfl) (by kernel_rfl) (by kernel_rfl) (fun _ _ _ h => h) HS9.out ?_ (by kernel_rfl) ?_
            rotate_left 1
            · intro w0 hS0
              obtain ⟨⟨s0, s1, s2, s3, s4, s5⟩, s6, s7, s8⟩ := hS0
              go_simp
              try with_reducible rfl
            try simp only [Act.put]
            refine wpAnyH_tk (i := 24) (v := ?_) rfl (by kernel_rfl) (by kernel_rfl) (by kernel_rfl) (fun _ _ _ h => h) HS9.out ?_ (by kernel_rfl) ?_
            rotate_left 1
            · intro w0 hS0
              obtain ⟨⟨s0, s1, s2, s3, s4, s5⟩, s6, s7, s8⟩ := hS0
              go_simp
              try with_reducible rfl
            try simp only [Act.put]
            refine wpAnyH_tk (i := 25) (v := ?_) rfl (by kernel_rfl) (by kernel_rfl) (by kernel_rfl) (fun _ _ _ h => h) HS9.out ?_ (by kernel_rfl) ?_
            rotate_left 1
            · intro w0 hS0
              obtain ⟨⟨s0, s1, s2, s3, s4, s5⟩, s6, s7, s8⟩ := hS0
              go_simp
              try with_reducible rfl
            try simp only [Act.put]
            refine wpAnyH_last (l := 26) rfl (by kernel_rfl) (by kernel_rfl) (fun K hK => ?_)
            go_simp
            refine hK.out _ _ HS9.out ?_
            clear hK K
            have hsz9 := HB9.out.size
            obtain ⟨Au, cu, rfl, -⟩ := HU9.out.vec
            go_wp2_with (at_builtin; refine wpList_append_int rfl (.tmp 41) (.tmp 43) rfl w1.heap.size _ _ _ rfl (HU9.out.alloc _) k _ rfl (cell_new_at _ _ _ rfl) (by omega) (by simp; omega) ?_)
            intro g3 cap3 w3' hT3 hb3 _ _
            have HT3 : Hid (OwnV w3' w1.heap.size (.slice (some ⟨g3, 0, none⟩) ((pickL p k).length + 1) cap3) (pickL p (k + 1)).length (atL (pickL p (k + 1)))) := by
              have HP : pickL p (k + 1) = pickL p k ++ [(k : Int)] := pickL_yes HPY.out
              rw [HP, List.length_append]
              refine OwnV.congr hT3 fun j hj => ?_
              unfold upd atL
              by_cases ej : j = (pickL p k).length
              · subst ej; simp
              · have : j < (pickL p k).length := by simp at hj; omega
                rw [if_neg ej]
                simp [List.getD, List.getElem?_append_left this]
            have HB3 := Lib.hid ((HB9.out.alloc HB9.out.size _).trans hb3)
            clear hT3 hb3
            go_wp2_with fail
            go_roundw
            case rel => exact ⟨k + 1, by omega, by go_num, HT3.out, HB3.out⟩
            case measure => simp [intOf]; omega
          · have b3 : decide (d < ee) = false := decide_eq_false hlt
            have HPN : Hid (p k = false) := Lib.hid (HPV.out.trans (decide_eq_false fun h => hlt h.2.2))
            clear hit hlt
            go_wp2_with fail
            refine wp_region_held (S := NxtS w.heap.size #[.int .i64 t, .slice (some AC) n cC, .slice AW W.length cW, .slice (some AH) n cH, .slice (some AF) n cF, .slice (some AL) n cL] AH AL a1 n q1 i k d ee) (by kernel_rfl) ?_
            refine wpAnyH_tk (i := 0) (v := ?_) rfl (by kernel_rfl) (by kernel_rfl) (by kernel_rfl) (fun _ _ _ h => h) HS0.out ?_ (by kernel_rfl) ?_
            rotate_left 1
            · intro w0 hS0
              obtain ⟨⟨s0, s1, s2, s3, s4, s5⟩, s6, s7, s8⟩ := hS0
              go_simp
              try with_reducible rfl
            try simp only [Act.put, List.setIfInBounds_toArray]
            refine wpAnyH_tk (i := 1) (v := ?_) rfl (by kernel_rfl) (by kernel_rfl) (by kernel_rfl) (fun _ _ _ h => h) HS0.out ?_ (by kernel_rfl) ?_
            rotate_left 1
            · intro w0 hS0
              obtain ⟨⟨s0, s1, s2, s3, s4, s5⟩, s6, s7, s8⟩ := hS0
              go_simp
              try with_reducible rfl
            try simp only [Act.put]
            refine wpAnyH_tk (i := 2) (v := ?_) rfl (by kernel_rfl) (by kernel_rfl) (by kernel_rfl) (fun _ _ _ h => h) HS0.out ?_ (by kernel_rfl) ?_
            rotate_left 1
            · intro w0 hS0
              obtain ⟨⟨s0, s1, s2, s3, s4, s5⟩, s6, s7, s8⟩ := hS0
              go_simp
              try with_reducible rfl
            try simp only [Act.put]
            refine wpAnyH_tk (i := 3) (v := ?_) rfl (by kernel_rfl) (by kernel_rfl) (by kernel_rfl) (fun _ _ _ h => h) HS0.out ?_ (by kernel_rfl) ?_
            rotate_left 1
            · intro w0 hS0
              obtain ⟨⟨s0, s1, s2, s3, s4, s5⟩, s6, s7, s8⟩ := hS0
              go_simp
              try with_reducible rfl
            try simp only [Act.put]
            refine wpAnyH_tk (i := 4) (v := ?_) rfl (by kernel_rfl) (by kernel_rfl) (by kernel_rfl) (fun _ _ _ h => h) HS0.out ?_ (by kernel_rfl) ?_
            rotate_left 1
            · intro w0 hS0
              obtain ⟨⟨s0, s1, s2, s3, s4, s5⟩, s6, s7, s8⟩ := hS0
              go_simp
              try with_reducible rfl
            try simp only [Act.put]
            refine wpAnyH_tk (i := 5) (v := ?_) rfl (by kernel_rfl) (by kernel_rfl) (by kernel_rfl) (fun _ _ _ h => h) HS0.out ?_ (by kernel_rfl) ?_
            rotate_left 1
            · intro w0 hS0
              obtain ⟨⟨s0, s1, s2, s3, s4, s5⟩, s6, s7, s8⟩ := hS0
              go_simp
              try with_reducible rfl
            try simp only [Act.put]
            refine wpAnyH_tk (i := 6) (v := ?_) rfl (by kernel_rfl) (by kernel_rfl) (by kernel_rfl) (fun _ _ _ h => h) HS0.out ?_ (by kernel_rfl) ?_
            rotate_left 1
            · intro w0 hS0
              obtain ⟨⟨s0, s1, s2, s3, s4, s5⟩, s6, s7, s8⟩ := hS0
              go_simp
              try with_reducible rfl
            try simp only [Act.put]
            refine wpAnyH_tk (i := 7) (v := ?_) rfl (by kernel_rfl) (by kernel_rfl) (by kernel_rfl) (fun _ _ _ h => h) HS0.out ?_ (by kernel_rfl) ?_
            rotate_left 1
            · intro w0 hS0
              obtain ⟨⟨s0, s1, s2, s3, s4, s5⟩, s6, s7, s8⟩ := hS0
              go_simp
              try with_reducible rfl
            try simp only [Act.put]
            refine wpAnyH_stepw (i := 8) rfl (by kernel_rfl) (by kernel_rfl) (fun K hK => ?_)
            refine wp_call_fns #[.tmp 19, .tmp 20, .tmp 21] rfl Tryd.func12 (by kernel_rfl) (by kernel_rfl) (vs := #[.agg #[.int .i64 t, .slice (some AC) n cC, .slice AW W.length cW, .slice (some AH) n cH, .slice (some AF) n cF, .slice (some AL) n cL], .int .i64 i, .int .i64 k]) (by kernel_rfl) ?_
            refine HC.out.mono ?_
            rintro e9 w9 ⟨rfl, hb9⟩
            have HS9 := Lib.hid (HS0.out.below hb9)
            have HB9 : Hid (Below w1.heap.size w1 w9) := Lib.hid (HB.out.drew.trans (hb9.mono HB.out.size))
            have HU9 : Hid (OwnV w9 w1.heap.size _ _ _) := Lib.hid (HU.out.drew.below hb9)
            clear hb9 HC
            refine ⟨_, rfl, hK.out _ _ HS9.out ?_⟩
            clear hK K
            try simp only [Act.put]
            refine wpAnyH_tk (i := 9) (v := ?_) rfl (by kernel_rfl) (by kernel_rfl) (by kernel_rfl) (fun _ _ _ h => h) HS9.out ?_ (by kernel_rfl) ?_
            rotate_left 1
            · intro w0 hS0
              obtain ⟨⟨s0, s1, s2, s3, s4, s5⟩, s6, s7, s8⟩ := hS0
              go_simp
              try with_reducible rfl
            try simp only [Act.put]
            refine wpAnyH_tk (i := 10) (v := ?_) rfl (by kernel_rfl) (by kernel_rfl) (by kernel_rfl) (fun _ _ _ h => h) HS9.out ?_ (by kernel_rfl) ?_
            rotate_left 1
            · intro w0 hS0
              obtain ⟨⟨s0, s1, s2, s3, s4, s5⟩, s6, s7, s8⟩ := hS0
              go_simp
              try with_reducible rfl
            try simp only [Act.put]
            refine wpAnyH_tk (i := 11) (v := ?_) rfl (by kernel_rfl) (by kernel_rfl) (by kernel_rfl) (fun _ _ _ h => h) HS9.out ?_ (by kernel_rfl) ?_
            rotate_left 1
            · intro w0 hS0
              obtain ⟨⟨s0, s1, s2, s3, s4, s5⟩, s6, s7, s8⟩ := hS0
              go_simp
              try with_reducible rfl
            try simp only [Act.put]
            refine wpAnyH_tk (i := 12) (v := ?_) rfl (by kernel_rfl) (by kernel_rfl) (by kernel_rfl) (fun _ _ _ h => h) HS9.out ?_ (by kernel_rfl) ?_
            rotate_left 1
            · intro w0 hS0
              obtain ⟨⟨s0, s1, s2, s3, s4, s5⟩, s6, s7, s8⟩ := hS0
              go_simp
              try with_reducible rfl
            try simp only [Act.put]
            refine wpAnyH_tk (i := 13) (v := ?_) rfl (by kernel_rfl) (by kernel_rfl) (by kernel_rfl) (fun _ _ _ h => h) HS9.out ?_ (by kernel_rfl) ?_
            rotate_left 1
            · intro w0 hS0
              obtain ⟨⟨s0, s1, s2, s3, s4, s5⟩, s6, s7, s8⟩ := hS0
              go_simp
              try with_reducible rfl
            try simp only [Act.put]
            refine wpAnyH_tk (i := 14) (v := ?_) rfl (by kernel_rfl) (by kernel_rfl) (by kernel_rfl) (fun _ _ _ h => h) HS9.out ?_ (by kernel_rfl) ?_
            rotate_left 1
            · intro w0 hS0
              obtain ⟨⟨s0, s1, s2, s3, s4, s5⟩, s6, s7, s8⟩ := hS0
              go_simp
              try with_reducible rfl
            try simp only [Act.put]
            refine wpAnyH_tk (i := 15) (v := ?_) rfl (by kernel_rfl) (by kernel_rfl) (by kernel_rfl) (fun _ _ _ h => h) HS9.out ?_ (by kernel_rfl) ?_
            rotate_left 1
            · intro w0 hS0
              obtain ⟨⟨s0, s1, s2, s3, s4, s5⟩, s6, s7, s8⟩ := hS0
              go_simp
              try with_reducible rfl
            try simp only [Act.put]
            refine wpAnyH_tk (i := 16) (v := ?_) rfl (by kernel_rfl) (by kernel_rfl) (by kernel_rfl) (fun _ _ _ h => h) HS9.out ?_ (by kernel_rfl) ?_
            rotate_left 1
            · intro w0 hS0
              obtain ⟨⟨s0, s1, s2, s3, s4, s5⟩, s6, s7, s8⟩ := hS0
              go_simp
              try with_reducible rfl
            try simp only [Act.put]
            refine wpAnyH_tk (i := 17) (v := ?_) rfl (by kernel_rfl) (by kernel_rfl) (by kernel_rfl) (fun _ _ _ h => h) HS9.out ?_ (by kernel_rfl) ?_
            rotate_left 1
            · intro w0 hS0
              obtain ⟨⟨s0, s1, s2, s3, s4, s5⟩, s6, s7, s8⟩ := hS0
              go_simp
              try with_reducible rfl
            try simp only [Act.put]
            refine wpAnyH_tk (i := 18) (v := ?_) rfl (by kernel_rfl) (by kernel_rfl) (by kernel_rfl) (fun _ _ _ h => h) HS9.out ?_ (by kernel_rfl) ?_
            rotate_left 1
            · intro w0 hS0
              obtain ⟨⟨s0, s1, s2, s3, s4, s5⟩, s6, s7, s8⟩ := hS0
              go_simp
              try with_reducible rfl
            try simp only [Act.put]
            refine wpAnyH_tk (i := 19) (v := ?_) rfl (by kernel_rfl) (by kernel_rfl) (by kernel_rfl) (fun _ _ _ h => h) HS9.out ?_ (by kernel_rfl) ?_
            rotate_left 1
            · intro w0 hS0
              obtain ⟨⟨s0, s1, s2, s3, s4, s5⟩, s6, s7, s8⟩ := hS0
              go_simp
              try with_reducible rfl
            try simp only [Act.put]
            refine wpAnyH_tk (i := 20) (v := ?_) rfl (by kernel_rfl) (by kernel_rfl) (by kernel_rfl) (fun _ _ _ h => h) HS9.out ?_ (by kernel_rfl) ?_
            rotate_left 1
            · intro w0 hS0
              obtain ⟨⟨s0, s1, s2, s3, s4, s5⟩, s6, s7, s8⟩ := hS0
              go_simp
              try with_reducible rfl
            try simp only [Act.put]
            refine wpAnyH_tk (i := 21) (v := ?_) rfl (by kernel_rfl) (by kernel_rfl) (by kernel_rfl) (fun _ _ _ h => h) HS9.out ?_ (by kernel_rfl) ?_
            rotate_left 1
            · intro w0 hS0
              obtain ⟨⟨s0, s1, s2, s3, s4, s5⟩, s6, s7, s8⟩ := hS0
              go_simp
              try with_reducible rfl
            try simp only [Act.put]
            refine wpAnyH_tk (i := 22) (v := ?_) rfl (by kernel_rfl) (by kernel_rfl) (by kernel_rfl) (fun _ _ _ h => h) HS9.out ?_ (by kernel_rfl) ?_
            rotate_left 1
            · intro w0 hS0
              obtain ⟨⟨s0, s1, s2, s3, s4, s5⟩, s6, s7, s8⟩ := hS0
              go_simp
              try with_reducible rfl
            try simp only [Act.put]
            refine wpAnyH_tk (i := 23) (v := ?_) rfl (by kernel_rfl) (by kernel_rfl) (by kernel_rfl) (fun _ _ _ h => h) HS9.out ?_ (by kernel_rfl) ?_
            rotate_left 1
            · intro w0 hS0
              obtain ⟨⟨s0, s1, s2, s3, s4, s5⟩, s6, s7, s8⟩ := hS0
              go_simp
              try with_reducible rfl
            try simp only [Act.put]
            refine wpAnyH_tk (i := 24) (v := ?_) rfl (by kernel_rfl) (by kernel_rfl) (by kernel_rfl) (fun _ _ _ h => h) HS9.out ?_ (by kernel_rfl) ?_
            rotate_left 1
            · intro w0 hS0
              obtain ⟨⟨s0, s1, s2, s3, s4, s5⟩, s6, s7, s8⟩ := hS0
              go_simp
              try with_reducible rfl
            try simp only [Act.put]
            refine wpAnyH_tk (i := 25) (v := ?_) rfl (by kernel_rfl) (by kernel_rfl) (by kernel_rfl) (fun _ _ _ h => h) HS9.out ?_ (by kernel_rfl) ?_
            rotate_left 1
            · intro w0 hS0
              obtain ⟨⟨s0, s1, s2, s3, s4, s5⟩, s6, s7, s8⟩ := hS0
              go_simp
              try with_reducible rfl
            try simp only [Act.put]
            refine wpAnyH_last (l := 26) rfl (by kernel_rfl) (by kernel_rfl) (fun K hK => ?_)
            go_simp
            refine hK.out _ _ HS9.out ?_
            clear hK K
            go_wp2_with fail
            go_roundw
            case rel => exact ⟨k + 1, by omega, by go_num, by rw [pickL_no HPN.out]; exact HU9.out, HB9.out⟩
            case measure => simp [intOf]; omega
        · have b3 : (en == 0) = false := beq_false_of_ne h0
          have HPN : Hid (p k = false) := Lib.hid (HPV.out.trans (decide_eq_false fun h => h0 h.2.1))
          clear hit h0
          go_wp2_with fail
          refine wp_region_held (S := NxtS w.heap.size #[.int .i64 t, .slice (some AC) n cC, .slice AW W.length cW, .slice (some AH) n cH, .slice (some AF) n cF, .slice (some AL) n cL] AH AL a1 n q1 i k d ee) (by kernel_rfl) ?_
          refine wpAnyH_tk (i := 0) (v := ?_) rfl (by kernel_rfl) (by kernel_rfl) (by kernel_rfl) (fun _ _ _ h => h) HS0.out ?_ (by kernel_rfl) ?_
          rotate_left 1
          · intro w0 hS0
            obtain ⟨⟨s0, s1, s2, s3, s4, s5⟩, s6, s7, s8⟩ := hS0
            go_simp
            try with_reducible rfl
          try simp only [Act.put, List.setIfInBounds_toArray]
          refine wpAnyH_tk (i := 1) (v := ?_) rfl (by kernel_rfl) (by kernel_rfl) (by kernel_rfl) (fun _ _ _ h => h) HS0.out ?_ (by kernel_rfl) ?_
          rotate_left 1
          · intro w0 hS0
            obtain ⟨⟨s0, s1, s2, s3, s4, s5⟩, s6, s7, s8⟩ := hS0
            go_simp
            try with_reducible rfl
          try simp only [Act.put]
          refine wpAnyH_tk (i := 2) (v := ?_) rfl (by kernel_rfl) (by kernel_rfl) (by kernel_rfl) (fun _ _ _ h => h) HS0.out ?_ (by kernel_rfl) ?_
          rotate_left 1
          · intro w0 hS0
            obtain ⟨⟨s0, s1, s2, s3, s4, s5⟩, s6, s7, s8⟩ := hS0
            go_simp
            try with_reducible rfl
          try simp only [Act.put]
          refine wpAnyH_tk (i := 3) (v := ?_) rfl (by kernel_rfl) (by kernel_rfl) (by kernel_rfl) (fun _ _ _ h => h) HS0.out ?_ (by kernel_rfl) ?_
          rotate_left 1
          · intro w0 hS0
            obtain ⟨⟨s0, s1, s2, s3, s4, s5⟩, s6, s7, s8⟩ := hS0
            go_simp
            try with_reducible rfl
          try simp only [Act.put]
          refine wpAnyH_tk (i := 4) (v := ?_) rfl (by kernel_rfl) (by kernel_rfl) (by kernel_rfl) (fun _ _ _ h => h) HS0.out ?_ (by kernel_rfl) ?_
          rotate_left 1
          · intro w0 hS0
            obtain ⟨⟨s0, s1, s2, s3, s4, s5⟩, s6, s7, s8⟩ := hS0
            go_simp
            try with_reducible rfl
          try simp only [Act.put]
          refine wpAnyH_tk (i := 5) (v := ?_) rfl (by kernel_rfl) (by kernel_rfl) (by kernel_rfl) (fun _ _ _ h => h) HS0.out ?_ (by kernel_rfl) ?_
          rotate_left 1
          · intro w0 hS0
            obtain ⟨⟨s0, s1, s2, s3, s4, s5⟩, s6, s7, s8⟩ := hS0
            go_simp
            try with_reducible rfl
          try simp only [Act.put]
          refine wpAnyH_tk (i := 6) (v := ?_) rfl (by kernel_rfl) (by kernel_rfl) (by kernel_rfl) (fun _ _ _ h => h) HS0.out ?_ (by kernel_rfl) ?_
          rotate_left 1
          · intro w0 hS0
            obtain ⟨⟨s0, s1, s2, s3, s4, s5⟩, s6, s7, s8⟩ := hS0
            go_simp
            try with_reducible rfl
          try simp only [Act.put]
          refine wpAnyH_tk (i := 7) (v := ?_) rfl (by kernel_rfl) (by kernel_rfl) (by kernel_rfl) (fun _ _ _ h => h) HS0.out ?_ (by kernel_rfl) ?_
          rotate_left 1
          · intro w0 hS0
            obtain ⟨⟨s0, s1, s2, s3, s4, s5⟩, s6, s7, s8⟩ := hS0
            go_simp
            try with_reducible rfl
          try simp only [Act.put]
          refine wpAnyH_stepw (i := 8) rfl (by kernel_rfl) (by kernel_rfl) (fun K hK => ?_)
          refine wp_call_fns #[.tmp 19, .tmp 20, .tmp 21] rfl Tryd.func12 (by kernel_rfl) (by kernel_rfl) (vs := #[.agg #[.int .i64 t, .slice (some AC) n cC, .slice AW W.length cW, .slice (some AH) n cH, .slice (some AF) n cF, .slice (some AL) n cL], .int .i64 i, .int .i64 k]) (by kernel_rfl) ?_
          refine HC.out.mono ?_
          rintro e9 w9 ⟨rfl, hb9⟩
          have HS9 := Lib.hid (HS0.out.below hb9)
          have HB9 : Hid (Below w1.heap.size w1 w9) := Lib.hid (HB.out.drew.trans (hb9.mono HB.out.size))
          have HU9 : Hid (OwnV w9 w1.heap.size _ _ _) := Lib.hid (HU.out.drew.below hb9)
          clear hb9 HC
          refine ⟨_, rfl, hK.out _ _ HS9.out ?_⟩
          clear hK K
          try simp only [Act.put]
          refine wpAnyH_tk (i := 9) (v := ?_) rfl (by kernel_rfl) (by kernel_rfl) (by kernel_rfl) (fun _ _ _ h => h) HS9.out ?_ (by kernel_rfl) ?_
          rotate_left 1
          · intro w0 hS0
            obtain ⟨⟨s0, s1, s2, s3, s4, s5⟩, s6, s7, s8⟩ := hS0
            go_simp
            try with_reducible rfl
          try simp only [Act.put]
          refine wpAnyH_tk (i := 10) (v := ?_) rfl (by kernel_rfl) (by kernel_rfl) (by kernel_rfl) (fun _ _ _ h => h) HS9.out ?_ (by kernel_rfl) ?_
          rotate_left 1
          · intro w0 hS0
            obtain ⟨⟨s0, s1, s2, s3, s4, s5⟩, s6, s7, s8⟩ := hS0
            go_simp
            try with_reducible rfl
          try simp only [Act.put]
          refine wpAnyH_tk (i := 11) (v := ?_) rfl (by kernel_rfl) (by kernel_rfl) (by kernel_rfl) (fun _ _ _ h => h) HS9.out ?_ (by kernel_rfl) ?_
          rotate_left 1
          · intro w0 hS0
            obtain ⟨⟨s0, s1, s2, s3, s4, s5⟩, s6, s7, s8⟩ := hS0
            go_simp
            try with_reducible rfl
          try simp only [Act.put]
          refine wpAnyH_skip (i := 12) rfl (by kernel_rfl) (by kernel_rfl) (by kernel_rfl) (fun _ _ _ h => h) HS9.out (by kernel_rfl) ?_
          try simp only [Act.put]
          refine wpAnyH_skip (i := 13) rfl (by kernel_rfl) (by kernel_rfl) (by kernel_rfl) (fun _ _ _ h => h) HS9.out (by kernel_rfl) ?_
          try simp only [Act.put]
          refine wpAnyH_skip (i := 14) rfl (by kernel_rfl) (by kernel_rfl) (by kernel_rfl) (fun _ _ _ h => h) HS9.out (by kernel_rfl) ?_
          try simp only [Act.put]
          refine wpAnyH_skip (i := 15) rfl (by kernel_rfl) (by kernel_rfl) (by kernel_rfl) (fun _ _ _ h => h) HS9.out (by kernel_rfl) ?_
          try simp only [Act.put]
          refine wpAnyH_skip (i := 16) rfl (by kernel_rfl) (by kernel_rfl) (by kernel_rfl) (fun _ _ _ h => h) HS9.out (by kernel_rfl) ?_
          try simp only [Act.put]
          refine wpAnyH_skip (i := 17) rfl (by kernel_rfl) (by kernel_rfl) (by kernel_rfl) (fun _ _ _ h => h) HS9.out (by kernel_rfl) ?_
          try simp only [Act.put]
          refine wpAnyH_skip (i := 18) rfl (by kernel_rfl) (by kernel_rfl) (by kernel_rfl) (fun _ _ _ h => h) HS9.out (by kernel_rfl) ?_
          try simp only [Act.put]
          refine wpAnyH_skip (i := 19) rfl (by kernel_rfl) (by kernel_rfl) (by kernel_rfl) (fun _ _ _ h => h) HS9.out (by kernel_rfl) ?_
          try simp only [Act.put]
          refine wpAnyH_skip (i := 20) rfl (by kernel_rfl) (by kernel_rfl) (by kernel_rfl) (fun _ _ _ h => h) HS9.out (by kernel_rfl) ?_
          try simp only [Act.put]
          refine wpAnyH_skip (i := 21) rfl (by kernel_rfl) (by kernel_rfl) (by kernel_rfl) (fun _ _ _ h => h) HS9.out (by kernel_rfl) ?_
          try simp only [Act.put]
          refine wpAnyH_skip (i := 22) rfl (by kernel_rfl) (by kernel_rfl) (by kernel_rfl) (fun _ _ _ h => h) HS9.out (by kernel_rfl) ?_
          try simp only [Act.put]
          refine wpAnyH_skip (i := 23) rfl (by kernel_rfl) (by kernel_rfl) (by kernel_rfl) (fun _ _ _ h => h) HS9.out (by kernel_rfl) ?_
          try simp only [Act.put]
          refine wpAnyH_skip (i := 24) rfl (by kernel_rfl) (by kernel_rfl) (by kernel_rfl) (fun _ _ _ h => h) HS9.out (by kernel_rfl) ?_
          try simp only [Act.put]
          refine wpAnyH_skip (i := 25) rfl (by kernel_rfl) (by kernel_rfl) (by kernel_rfl) (fun _ _ _ h => h) HS9.out (by kernel_rfl) ?_
          try simp only [Act.put]
          refine wpAnyH_last (l := 26) rfl (by kernel_rfl) (by kernel_rfl) (fun K hK => ?_)
          go_simp
          refine hK.out _ _ HS9.out ?_
          clear hK K
          go_wp2_with fail
          go_roundw
          case rel => exact ⟨k + 1, by omega, by go_num, by rw [pickL_no HPN.out]; exact HU9.out, HB9.out⟩
          case measure => simp [intOf]; omega
    · have ek : n = k := by omega
      subst ek
      go_wp2_with fail
      go_ret
      exact ⟨_, rfl, HU.out.lift (by have := HZ1.out; omega), HBW.out⟩

end Go.Proofs.YtminfghiejgieaaDoor

/- The walk of the reference's Anew. Printed by gen_qanew.py. -/
namespace Go.Proofs.YtminfghiejgieaaDoor
open Go.RowKit
set_option linter.unusedVariables false

/-- What node i thinks anew. -/
def newQ (n t : Nat) (K h : Nat → Nat → Int) (e : Nat → Int) (i : Nat) : Int := leastL (K i) (h i) (pickL (nxB n t K h e i) n) (pickL (nxB n t K h e i) n).length

set_option maxRecDepth 100000 in
set_option maxHeartbeats 4000000 in
theorem qAnew (P : Nat → Prop) (v : Array Value) (n t : Nat) (K h : Nat → Nat → Int) (f e : Nat → Int) (W : WayL) (i : Nat) (w : World) (q : QR P w v n t K h f e W) (h1 : 1 ≤ n) (h8 : n ≤ 8) (hWl : W.length ≤ 1000000) (hi : i < n) (hKr : ∀ a b, a < n → b < n → 0 ≤ K a b ∧ K a b ≤ 16) (hHr : ∀ a b, a < n → b < n → 0 ≤ h a b ∧ h a b ≤ 16) :
    Calls Tryd.prog 26 #[.agg v, .int .i64 i] w fun e' w' => ∃ v', e' = .returned (.agg v') ∧ QR (fun b => w.heap.size ≤ b) w' v' n t K h (if i = t then f else upd f i (newQ n t K h e i)) (if i = t then e else upd e i (min (e i) (newQ n t K h e i))) W ∧ Below w.heap.size w w' := by
  have HQ := Lib.hid q
  obtain ⟨AC, cC, AW, cW, AH, cH, AF, cF, AL, cL, rfl, hK, hW, hWn, hH, hF, hE⟩ := q
  have hi' : (i : Int) < n := by omega
  have HK := Lib.hid hK.mat
  have HH := Lib.hid hH.mat
  obtain ⟨aL, eL, -, hLl, hLx⟩ := hE i hi
  simp only [Option.some.injEq] at eL
  subst eL
  obtain ⟨ee, hee⟩ : ∃ ee, e i = ee := ⟨_, rfl⟩
  have HEE := Lib.hid hee
  rw [hee] at hLx
  have HLX := Lib.hid hLx
  have HLL := Lib.hid hLl
  clear hK hW hWn hH hF hE hee hLx hLl
  have h8' : (n : Int) ≤ 8 := by omega
  have hb1 : Below w.heap.size w ((w.alloc (.cells #[.int .i64 t, .slice (some AC) n cC, .slice AW W.length cW, .slice (some AH) n cH, .slice (some AF) n cF, .slice (some AL) n cL] 37)).alloc (.cells #[.int .i64 0, .slice none 0 0, .slice none 0 0, .slice none 0 0, .slice none 0 0, .slice none 0 0] 37)) := ((Below.refl _ _).alloc (Nat.le_refl _) _).alloc (by simp) _
  have hx1 : Blk ((w.alloc (.cells #[.int .i64 t, .slice (some AC) n cC, .slice AW W.length cW, .slice (some AH) n cH, .slice (some AF) n cF, .slice (some AL) n cL] 37)).alloc (.cells #[.int .i64 0, .slice none 0 0, .slice none 0 0, .slice none 0 0, .slice none 0 0, .slice none 0 0] 37)) w.heap.size 37 #[.int .i64 t, .slice (some AC) n cC, .slice AW W.length cW, .slice (some AH) n cH, .slice (some AF) n cF, .slice (some AL) n cL] := (Blk.new w _ _).alloc _
  have hr1 : Blk ((w.alloc (.cells #[.int .i64 t, .slice (some AC) n cC, .slice AW W.length cW, .slice (some AH) n cH, .slice (some AF) n cF, .slice (some AL) n cL] 37)).alloc (.cells #[.int .i64 0, .slice none 0 0, .slice none 0 0, .slice none 0 0, .slice none 0 0, .slice none 0 0] 37)) (w.heap.size + 1) 37 #[.int .i64 0, .slice none 0 0, .slice none 0 0, .slice none 0 0, .slice none 0 0, .slice none 0 0] := by
    have := Blk.new (w.alloc (.cells #[.int .i64 t, .slice (some AC) n cC, .slice AW W.length cW, .slice (some AH) n cH, .slice (some AF) n cF, .slice (some AL) n cL] 37)) 37 #[.int .i64 0, .slice none 0 0, .slice none 0 0, .slice none 0 0, .slice none 0 0, .slice none 0 0]
    rwa [show (w.alloc (.cells #[.int .i64 t, .slice (some AC) n cC, .slice AW W.length cW, .slice (some AH) n cH, .slice (some AF) n cF, .slice (some AL) n cL] 37)).heap.size = w.heap.size + 1 by simp] at this
  have hz1 : ((w.alloc (.cells #[.int .i64 t, .slice (some AC) n cC, .slice AW W.length cW, .slice (some AH) n cH, .slice (some AF) n cF, .slice (some AL) n cL] 37)).alloc (.cells #[.int .i64 0, .slice none 0 0, .slice none 0 0, .slice none 0 0, .slice none 0 0, .slice none 0 0] 37)).heap.size = w.heap.size + 2 := by simp
  have HZE := Lib.hid hz1
  have HB1 := Lib.hid hb1
  have HX1 := Lib.hid hx1
  have HR1 := Lib.hid hr1
  clear hb1 hx1 hr1 hz1
  go_enter Tryd.func26, Tryd.ntmps26
  go_wp2_with fail
  refine (copied_walk P _ n t K h f e W _ (HQ.out.below HB1.out) h1 h8 hWl).mono ?_
  rintro e' w3 ⟨d, rfl, hcp, hb3⟩
  rw [HZE.out] at hcp hb3
  obtain ⟨AV, qV, eV, -, -⟩ := (CN.of hcp).way.lnk
  have hval : d.val n t = #[.int .i64 t, .slice (some ⟨d.gC, 0, none⟩) n d.cC, .slice AV W.length qV, .slice (some ⟨d.gH, 0, none⟩) n d.cH, .slice (some ⟨d.gF, 0, none⟩) n d.cF, .slice (some ⟨d.gL, 0, none⟩) n d.cL] := by
    unfold CD.val
    rw [eV]
  have hcn := CN.of hcp
  have hown := hcp.ownOf
  rw [eV] at hcn hown
  rw [hval]
  clear hcp hval eV
  by_cases hit : i = t
  · have g1 : ((i : Int) == (t : Int)) = true := by simp [hit]
    have g2 : (i == t) = true := by simp [hit]
    have HIT := Lib.hid hit
    clear hit
    have hcn4 := hcn.below ((Below.refl _ _).alloc (Nat.le_refl _) (.cells #[.int .i64 t, .slice (some ⟨d.gC, 0, none⟩) n d.cC, .slice AV W.length qV, .slice (some ⟨d.gH, 0, none⟩) n d.cH, .slice (some ⟨d.gF, 0, none⟩) n d.cF, .slice (some ⟨d.gL, 0, none⟩) n d.cL] 37))
    have hp4 : Blk (w3.alloc (.cells #[.int .i64 t, .slice (some ⟨d.gC, 0, none⟩) n d.cC, .slice AV W.length qV, .slice (some ⟨d.gH, 0, none⟩) n d.cH, .slice (some ⟨d.gF, 0, none⟩) n d.cF, .slice (some ⟨d.gL, 0, none⟩) n d.cL] 37)) w3.heap.size 37 #[.int .i64 t, .slice (some ⟨d.gC, 0, none⟩) n d.cC, .slice AV W.length qV, .slice (some ⟨d.gH, 0, none⟩) n d.cH, .slice (some ⟨d.gF, 0, none⟩) n d.cF, .slice (some ⟨d.gL, 0, none⟩) n d.cL] := Blk.new _ _ _
    have hx4 : Blk (w3.alloc (.cells #[.int .i64 t, .slice (some ⟨d.gC, 0, none⟩) n d.cC, .slice AV W.length qV, .slice (some ⟨d.gH, 0, none⟩) n d.cH, .slice (some ⟨d.gF, 0, none⟩) n d.cF, .slice (some ⟨d.gL, 0, none⟩) n d.cL] 37)) w.heap.size 37 #[.int .i64 t, .slice (some AC) n cC, .slice AW W.length cW, .slice (some AH) n cH, .slice (some AF) n cF, .slice (some AL) n cL] := Blk.alloc ((hb3.block _ (by omega)).trans HX1.out) _
    have hr4 : Blk (w3.alloc (.cells #[.int .i64 t, .slice (some ⟨d.gC, 0, none⟩) n d.cC, .slice AV W.length qV, .slice (some ⟨d.gH, 0, none⟩) n d.cH, .slice (some ⟨d.gF, 0, none⟩) n d.cF, .slice (some ⟨d.gL, 0, none⟩) n d.cL] 37)) (w.heap.size + 1) 37 #[.int .i64 0, .slice none 0 0, .slice none 0 0, .slice none 0 0, .slice none 0 0, .slice none 0 0] := Blk.alloc ((hb3.block _ (by omega)).trans HR1.out) _
    have hb4 : Below w.heap.size w (w3.alloc (.cells #[.int .i64 t, .slice (some ⟨d.gC, 0, none⟩) n d.cC, .slice AV W.length qV, .slice (some ⟨d.gH, 0, none⟩) n d.cH, .slice (some ⟨d.gF, 0, none⟩) n d.cF, .slice (some ⟨d.gL, 0, none⟩) n d.cL] 37)) := (HB1.out.trans (hb3.mono (by omega))).alloc (HB1.out.trans (hb3.mono (by omega))).size _
    have hs4 : (w3.alloc (.cells #[.int .i64 t, .slice (some ⟨d.gC, 0, none⟩) n d.cC, .slice AV W.length qV, .slice (some ⟨d.gH, 0, none⟩) n d.cH, .slice (some ⟨d.gF, 0, none⟩) n d.cF, .slice (some ⟨d.gL, 0, none⟩) n d.cL] 37)).heap.size = w3.heap.size + 1 := by simp
    have htop := hcn.top
    have hlow := hcn.low
    have ho1 := hcn.o1
    have ho2 := hcn.o2
    have ho4 := hcn.o4
    have ho5 := hcn.o5
    have j0 : (w3.alloc (.cells #[.int .i64 t, .slice (some ⟨d.gC, 0, none⟩) n d.cC, .slice AV W.length qV, .slice (some ⟨d.gH, 0, none⟩) n d.cH, .slice (some ⟨d.gF, 0, none⟩) n d.cF, .slice (some ⟨d.gL, 0, none⟩) n d.cL] 37)).cell? ⟨w.heap.size, 0, none⟩ = some (.int .i64 t) := hx4.cell 0
    have j1 : (w3.alloc (.cells #[.int .i64 t, .slice (some ⟨d.gC, 0, none⟩) n d.cC, .slice AV W.length qV, .slice (some ⟨d.gH, 0, none⟩) n d.cH, .slice (some ⟨d.gF, 0, none⟩) n d.cF, .slice (some ⟨d.gL, 0, none⟩) n d.cL] 37)).cell? ⟨w.heap.size, 1, none⟩ = some (.slice (some AC) n cC) := hx4.cell 1
    have j2 : (w3.alloc (.cells #[.int .i64 t, .slice (some ⟨d.gC, 0, none⟩) n d.cC, .slice AV W.length qV, .slice (some ⟨d.gH, 0, none⟩) n d.cH, .slice (some ⟨d.gF, 0, none⟩) n d.cF, .slice (some ⟨d.gL, 0, none⟩) n d.cL] 37)).cell? ⟨w.heap.size, 2, none⟩ = some (.slice AW W.length cW) := hx4.cell 2
    have j3 : (w3.alloc (.cells #[.int .i64 t, .slice (some ⟨d.gC, 0, none⟩) n d.cC, .slice AV W.length qV, .slice (some ⟨d.gH, 0, none⟩) n d.cH, .slice (some ⟨d.gF, 0, none⟩) n d.cF, .slice (some ⟨d.gL, 0, none⟩) n d.cL] 37)).cell? ⟨w.heap.size, 3, none⟩ = some (.slice (some AH) n cH) := hx4.cell 3
    have j4 : (w3.alloc (.cells #[.int .i64 t, .slice (some ⟨d.gC, 0, none⟩) n d.cC, .slice AV W.length qV, .slice (some ⟨d.gH, 0, none⟩) n d.cH, .slice (some ⟨d.gF, 0, none⟩) n d.cF, .slice (some ⟨d.gL, 0, none⟩) n d.cL] 37)).cell? ⟨w.heap.size, 4, none⟩ = some (.slice (some AF) n cF) := hx4.cell 4
    have j5 : (w3.alloc (.cells #[.int .i64 t, .slice (some ⟨d.gC, 0, none⟩) n d.cC, .slice AV W.length qV, .slice (some ⟨d.gH, 0, none⟩) n d.cH, .slice (some ⟨d.gF, 0, none⟩) n d.cF, .slice (some ⟨d.gL, 0, none⟩) n d.cL] 37)).cell? ⟨w.heap.size, 5, none⟩ = some (.slice (some AL) n cL) := hx4.cell 5
    have HR7 := Lib.hid hr4
    have HB7 := Lib.hid hb4
    have HC7 := Lib.hid hcn4
    clear hp4 hx4 hr4 hb4 hcn4 hcn
    go_wp2_with (refine wpList_store_row rfl 37 (.tmp 4) (.tmp 15) rfl (w.heap.size + 1) #[.int .i64 t, .slice (some ⟨d.gC, 0, none⟩) n d.cC, .slice AV W.length qV, .slice (some ⟨d.gH, 0, none⟩) n d.cH, .slice (some ⟨d.gF, 0, none⟩) n d.cF, .slice (some ⟨d.gL, 0, none⟩) n d.cL] rfl rfl _ _ HR7.out (by kernel_rfl) rfl (by simp [Value.oneCell']) ?_)
    refine bodyPost_ret (results_cell_row rfl _ _ _ _ _ (0, 0) _ rfl (setRow_heap _ _ _ _ _ _ HR7.out) Tryd.underlying37 rfl (by kernel_rfl)) rfl ?_
    refine ⟨_, rfl, ?_, ?_⟩
    · exact (HC7.out.same fun b hb _ => setRow_other _ _ b _ (by omega)).reads.same (fun _ _ _ => rfl) (Nat.le_refl _) (fun b hb _ => by
      have hb' : w.heap.size + 2 + 2 ≤ b := hb
      show w.heap.size ≤ b
      omega)
    · exact ⟨HB7.out.os, HB7.out.tape, HB7.out.output, by rw [setRow_size]; exact HB7.out.size, fun k hk => (setRow_other _ _ k _ (by omega)).trans (HB7.out.block k hk)⟩
  · have g1 : ((i : Int) == (t : Int)) = false := beq_false_of_ne (by omega)
    have g2 : (i == t) = false := beq_false_of_ne hit
    have HIT := Lib.hid hit
    clear hit
    have hcn4 := hcn.below ((Below.refl _ _).alloc (Nat.le_refl _) (.cells #[.int .i64 t, .slice (some ⟨d.gC, 0, none⟩) n d.cC, .slice AV W.length qV, .slice (some ⟨d.gH, 0, none⟩) n d.cH, .slice (some ⟨d.gF, 0, none⟩) n d.cF, .slice (some ⟨d.gL, 0, none⟩) n d.cL] 37))
    have hp4 : Blk (w3.alloc (.cells #[.int .i64 t, .slice (some ⟨d.gC, 0, none⟩) n d.cC, .slice AV W.length qV, .slice (some ⟨d.gH, 0, none⟩) n d.cH, .slice (some ⟨d.gF, 0, none⟩) n d.cF, .slice (some ⟨d.gL, 0, none⟩) n d.cL] 37)) w3.heap.size 37 #[.int .i64 t, .slice (some ⟨d.gC, 0, none⟩) n d.cC, .slice AV W.length qV, .slice (some ⟨d.gH, 0, none⟩) n d.cH, .slice (some ⟨d.gF, 0, none⟩) n d.cF, .slice (some ⟨d.gL, 0, none⟩) n d.cL] := Blk.new _ _ _
    have hx4 : Blk (w3.alloc (.cells #[.int .i64 t, .slice (some ⟨d.gC, 0, none⟩) n d.cC, .slice AV W.length qV, .slice (some ⟨d.gH, 0, none⟩) n d.cH, .slice (some ⟨d.gF, 0, none⟩) n d.cF, .slice (some ⟨d.gL, 0, none⟩) n d.cL] 37)) w.heap.size 37 #[.int .i64 t, .slice (some AC) n cC, .slice AW W.length cW, .slice (some AH) n cH, .slice (some AF) n cF, .slice (some AL) n cL] := Blk.alloc ((hb3.block _ (by omega)).trans HX1.out) _
    have hr4 : Blk (w3.alloc (.cells #[.int .i64 t, .slice (some ⟨d.gC, 0, none⟩) n d.cC, .slice AV W.length qV, .slice (some ⟨d.gH, 0, none⟩) n d.cH, .slice (some ⟨d.gF, 0, none⟩) n d.cF, .slice (some ⟨d.gL, 0, none⟩) n d.cL] 37)) (w.heap.size + 1) 37 #[.int .i64 0, .slice none 0 0, .slice none 0 0, .slice none 0 0, .slice none 0 0, .slice none 0 0] := Blk.alloc ((hb3.block _ (by omega)).trans HR1.out) _
    have hb4 : Below w.heap.size w (w3.alloc (.cells #[.int .i64 t, .slice (some ⟨d.gC, 0, none⟩) n d.cC, .slice AV W.length qV, .slice (some ⟨d.gH, 0, none⟩) n d.cH, .slice (some ⟨d.gF, 0, none⟩) n d.cF, .slice (some ⟨d.gL, 0, none⟩) n d.cL] 37)) := (HB1.out.trans (hb3.mono (by omega))).alloc (HB1.out.trans (hb3.mono (by omega))).size _
    have hs4 : (w3.alloc (.cells #[.int .i64 t, .slice (some ⟨d.gC, 0, none⟩) n d.cC, .slice AV W.length qV, .slice (some ⟨d.gH, 0, none⟩) n d.cH, .slice (some ⟨d.gF, 0, none⟩) n d.cF, .slice (some ⟨d.gL, 0, none⟩) n d.cL] 37)).heap.size = w3.heap.size + 1 := by simp
    have htop := hcn.top
    have hlow := hcn.low
    have ho1 := hcn.o1
    have ho2 := hcn.o2
    have ho4 := hcn.o4
    have ho5 := hcn.o5
    have j0 : (w3.alloc (.cells #[.int .i64 t, .slice (some ⟨d.gC, 0, none⟩) n d.cC, .slice AV W.length qV, .slice (some ⟨d.gH, 0, none⟩) n d.cH, .slice (some ⟨d.gF, 0, none⟩) n d.cF, .slice (some ⟨d.gL, 0, none⟩) n d.cL] 37)).cell? ⟨w.heap.size, 0, none⟩ = some (.int .i64 t) := hx4.cell 0
    have j1 : (w3.alloc (.cells #[.int .i64 t, .slice (some ⟨d.gC, 0, none⟩) n d.cC, .slice AV W.length qV, .slice (some ⟨d.gH, 0, none⟩) n d.cH, .slice (some ⟨d.gF, 0, none⟩) n d.cF, .slice (some ⟨d.gL, 0, none⟩) n d.cL] 37)).cell? ⟨w.heap.size, 1, none⟩ = some (.slice (some AC) n cC) := hx4.cell 1
    have j2 : (w3.alloc (.cells #[.int .i64 t, .slice (some ⟨d.gC, 0, none⟩) n d.cC, .slice AV W.length qV, .slice (some ⟨d.gH, 0, none⟩) n d.cH, .slice (some ⟨d.gF, 0, none⟩) n d.cF, .slice (some ⟨d.gL, 0, none⟩) n d.cL] 37)).cell? ⟨w.heap.size, 2, none⟩ = some (.slice AW W.length cW) := hx4.cell 2
    have j3 : (w3.alloc (.cells #[.int .i64 t, .slice (some ⟨d.gC, 0, none⟩) n d.cC, .slice AV W.length qV, .slice (some ⟨d.gH, 0, none⟩) n d.cH, .slice (some ⟨d.gF, 0, none⟩) n d.cF, .slice (some ⟨d.gL, 0, none⟩) n d.cL] 37)).cell? ⟨w.heap.size, 3, none⟩ = some (.slice (some AH) n cH) := hx4.cell 3
    have j4 : (w3.alloc (.cells #[.int .i64 t, .slice (some ⟨d.gC, 0, none⟩) n d.cC, .slice AV W.length qV, .slice (some ⟨d.gH, 0, none⟩) n d.cH, .slice (some ⟨d.gF, 0, none⟩) n d.cF, .slice (some ⟨d.gL, 0, none⟩) n d.cL] 37)).cell? ⟨w.heap.size, 4, none⟩ = some (.slice (some AF) n cF) := hx4.cell 4
    have j5 : (w3.alloc (.cells #[.int .i64 t, .slice (some ⟨d.gC, 0, none⟩) n d.cC, .slice AV W.length qV, .slice (some ⟨d.gH, 0, none⟩) n d.cH, .slice (some ⟨d.gF, 0, none⟩) n d.cF, .slice (some ⟨d.gL, 0, none⟩) n d.cL] 37)).cell? ⟨w.heap.size, 5, none⟩ = some (.slice (some AL) n cL) := hx4.cell 5
    go_wp2_with fail
    obtain ⟨p7, hp7⟩ : ∃ p7, w3.heap.size = p7 := ⟨_, rfl⟩
    obtain ⟨w4, hw4⟩ : ∃ w4, w3.alloc (.cells #[.int .i64 t, .slice (some ⟨d.gC, 0, none⟩) n d.cC, .slice AV W.length qV, .slice (some ⟨d.gH, 0, none⟩) n d.cH, .slice (some ⟨d.gF, 0, none⟩) n d.cF, .slice (some ⟨d.gL, 0, none⟩) n d.cL] 37) = w4 := ⟨_, rfl⟩
    rw [hw4] at hcn4 hp4 hx4 hr4 hb4 hs4 j0 j1 j2 j3 j4 j5 ⊢
    rw [hp7] at hp4 hs4 htop ⊢
    have HB4 := Lib.hid hb4
    have HC4 := Lib.hid hcn4
    have HP4 := Lib.hid hp4
    have HOWN := Lib.hid hown
    have HX4 := Lib.hid hx4
    have HR4 := Lib.hid hr4
    clear hb3 hcn hown hw4 hp7 HX1 HR1 HB1 HZE
    refine (qNexts P _ n t K h f e W i w4 (HQ.out.below HB4.out) h8 hi).mono ?_
    rintro e5 w5 ⟨u5, rfl, hown5, hb5⟩
    obtain ⟨p, hp⟩ : ∃ p, nxB n t K h e i = p := ⟨_, rfl⟩
    have HNQ : Hid (newQ n t K h e i = leastL (K i) (h i) (pickL p n) (pickL p n).length) := by
      unfold newQ
      rw [hp]
      exact Lib.hid rfl
    rw [hp] at hown5
    obtain ⟨Av, cv, rfl, hv5⟩ := hown5.vec
    have hL8 := pickL_len p n
    have hx5 : Blk w5 w.heap.size 37 _ := (hb5.block _ HX4.out.lt).trans HX4.out
    have hr5 : Blk w5 (w.heap.size + 1) 37 _ := (hb5.block _ HR4.out.lt).trans HR4.out
    have hp5 : Blk w5 p7 37 _ := (hb5.block _ HP4.out.lt).trans HP4.out
    have HX5 := Lib.hid hx5
    have HR5 := Lib.hid hr5
    have HP5 := Lib.hid hp5
    have HC5 := Lib.hid (HC4.out.below hb5)
    have HB5 := Lib.hid (keep HB4.out hb5)
    have HV5 := Lib.hid hv5
    have HPA := Lib.hid (fun j (hj : j < (pickL p n).length) => pick_at hj)
    obtain ⟨l, hl⟩ : ∃ l, pickL p n = l := ⟨_, rfl⟩
    rw [hl] at HNQ HV5 HPA hL8 ⊢
    obtain ⟨L, hLn⟩ : ∃ L, l.length = L := ⟨_, rfl⟩
    rw [hLn] at HNQ HV5 HPA hL8 ⊢
    clear hown5 hv5 hx5 hr5 hp5 hb5 hp hl hLn HX4 HR4 HP4 HC4 HB4 HOWN j0 j1 j2 j3 j4 j5
    go_wp2_with fail
    go_loopw [6, 8] (fun dv q wr => ∃ k : Nat, k ≤ L ∧ q = .int .i64 k ∧ (∃ z, dv = .int .i64 z ∧ Hid (leastL (K i) (h i) l k = z)) ∧ Below w5.heap.size w5 wr) (fun _ q _ => L - (intOf q).toNat)
    case atStart => exact ⟨0, by omega, rfl, ⟨16, rfl, Lib.hid rfl⟩, Below.refl _ _⟩
    case round =>
      obtain ⟨k, hk, rfl, ⟨z, rfl, HZ⟩, hb⟩ := hrel
      have hxr : Blk wr w.heap.size 37 _ := (hb.block _ HX5.out.lt).trans HX5.out
      have j0 : wr.cell? ⟨w.heap.size, 0, none⟩ = some (.int .i64 t) := hxr.cell 0
      have j1 : wr.cell? ⟨w.heap.size, 1, none⟩ = some (.slice (some AC) n cC) := hxr.cell 1
      have j2 : wr.cell? ⟨w.heap.size, 2, none⟩ = some (.slice AW W.length cW) := hxr.cell 2
      have j3 : wr.cell? ⟨w.heap.size, 3, none⟩ = some (.slice (some AH) n cH) := hxr.cell 3
      have j4 : wr.cell? ⟨w.heap.size, 4, none⟩ = some (.slice (some AF) n cF) := hxr.cell 4
      have j5 : wr.cell? ⟨w.heap.size, 5, none⟩ = some (.slice (some AL) n cL) := hxr.cell 5
      have HBR := Lib.hid hb
      have HBW := Lib.hid (keep HB5.out hb)
      have hzr : z ≤ 16 := by rw [← HZ.out]; exact least_le k
      clear hb hxr
      by_cases hkn : k < L
      · have hkn' : (k : Int) < L := by omega
        obtain ⟨r, hr, hrn, -⟩ := HPA.out k hkn
        have hrn' : (r : Int) < n := by omega
        obtain ⟨av, rfl, -, r0⟩ := (HV5.out.keep HBR.out) k hkn
        rw [hr] at r0
        obtain ⟨kk, hkk⟩ : ∃ kk, K i r = kk := ⟨_, rfl⟩
        obtain ⟨hh, hhh⟩ : ∃ hh, h i r = hh := ⟨_, rfl⟩
        obtain ⟨hk0, hk1⟩ := hKr i r hi hrn
        obtain ⟨hh0, hh1⟩ := hHr i r hi hrn
        rw [hkk] at hk0 hk1
        rw [hhh] at hh0 hh1
        have HST : Hid (leastL (K i) (h i) l (k + 1) = min z (min (kk + hh) 16)) := by
          show min (leastL (K i) (h i) l k) (K i (atL l k).toNat + h i (atL l k).toNat) = _
          rw [HZ.out, hr, show ((r : Int)).toNat = r by omega, hkk, hhh]
          omega
        obtain ⟨a1, A1, q1, e1, -, r1, v1⟩ := (HK.out.keep HBW.out) i hi
        simp only [Option.some.injEq] at e1
        subst e1
        obtain ⟨a2, rfl, -, r2⟩ := v1 r hrn
        rw [hkk] at r2
        obtain ⟨a3, A3, q3, e3, -, r3, v3⟩ := (HH.out.keep HBW.out) i hi
        simp only [Option.some.injEq] at e3
        subst e3
        obtain ⟨a4, rfl, -, r4⟩ := v3 r hrn
        rw [hhh] at r4
        clear v1 v3 hkk hhh hr HZ
        go_wp2_with fail
        go_quiet ((go_at_call 49; first | exact Calls.quiet_of_same ((plus_walk kk hh _ hk0 hk1 hh0 hh1).mono fun _ _ h => ⟨h.1, h.2⟩) | exact quiet_adds ((plus_walk kk hh _ hk0 hk1 hh0 hh1).mono fun _ _ h => ⟨h.1, 0, h.2⟩)))
        go_wp2_with fail
        go_roundw
        case rel => exact ⟨k + 1, by omega, by go_num, ⟨_, rfl, Lib.hid (HST.out.trans (by split <;> omega))⟩, below_drewN HBR.out _⟩
        case measure => simp [intOf]; omega
      · have ek : L = k := by omega
        subst ek
        have hpr : Blk wr p7 37 _ := (HBR.out.block _ HP5.out.lt).trans HP5.out
        have hr6 : Blk wr (w.heap.size + 1) 37 _ := (HBR.out.block _ HR5.out.lt).trans HR5.out
        have hcr := HC5.out.below HBR.out
        have rF := hcr.r4.frozen i
        have rG := hcr.r4.cell hi
        have k0 : wr.cell? ⟨p7, 0, none⟩ = some (.int .i64 t) := hpr.cell 0
        have k1 : wr.cell? ⟨p7, 1, none⟩ = some (.slice (some ⟨d.gC, 0, none⟩) n d.cC) := hpr.cell 1
        have k2 : wr.cell? ⟨p7, 2, none⟩ = some (.slice AV W.length qV) := hpr.cell 2
        have k3 : wr.cell? ⟨p7, 3, none⟩ = some (.slice (some ⟨d.gH, 0, none⟩) n d.cH) := hpr.cell 3
        have k4 : wr.cell? ⟨p7, 4, none⟩ = some (.slice (some ⟨d.gF, 0, none⟩) n d.cF) := hpr.cell 4
        have k5 : wr.cell? ⟨p7, 5, none⟩ = some (.slice (some ⟨d.gL, 0, none⟩) n d.cL) := hpr.cell 5
        have hcn7 := hcr.setFar i z
        have n1 : p7 ≠ d.gF := by omega
        have n2 : w.heap.size ≠ d.gF := by omega
        have n3 : w.heap.size + 1 ≠ d.gF := by omega
        have n4 : d.gL ≠ d.gF := by omega
        have n5 : AL.block ≠ d.gF := by have := HLL.out; omega
        have hp7 : Blk (wr.setCell ⟨d.gF, i, none⟩ (.int .i64 z)) p7 37 _ := (Below.heap_setCell _ _ _ _ (by show p7 ≠ d.gF; omega)).trans hpr
        have hx7 : Blk (wr.setCell ⟨d.gF, i, none⟩ (.int .i64 z)) w.heap.size 37 _ := (Below.heap_setCell _ _ _ _ (by show w.heap.size ≠ d.gF; omega)).trans ((HBR.out.block _ HX5.out.lt).trans HX5.out)
        have hr7 : Blk (wr.setCell ⟨d.gF, i, none⟩ (.int .i64 z)) (w.heap.size + 1) 37 _ := (Below.heap_setCell _ _ _ _ (by show w.heap.size + 1 ≠ d.gF; omega)).trans hr6
        have hb7 : Below w.heap.size w (wr.setCell ⟨d.gF, i, none⟩ (.int .i64 z)) := HBW.out.setCell (by show w.heap.size ≤ d.gF; omega) _
        have hl7 : (wr.setCell ⟨d.gF, i, none⟩ (.int .i64 z)).cell? (AL.add i) = some (.int .i64 ee) := (hb7.cell (p := AL.add i) (by rw [block_of_add]; exact HLL.out)).trans HLX.out
        go_wp2_with fail
        obtain ⟨w7, hw7⟩ : ∃ w7, wr.setCell ⟨d.gF, i, none⟩ (.int .i64 z) = w7 := ⟨_, rfl⟩
        rw [hw7] at hcn7 hp7 hx7 hr7 hb7 hl7 ⊢
        have y5 : w7.cell? ⟨w.heap.size, 5, none⟩ = some (.slice (some AL) n cL) := hx7.cell 5
        have x5 : w7.cell? ⟨p7, 5, none⟩ = some (.slice (some ⟨d.gL, 0, none⟩) n d.cL) := hp7.cell 5
        have rH := hcn7.r5.frozen i
        have rI := hcn7.r5.cell hi
        have HC7' := Lib.hid hcn7
        have HP7' := Lib.hid hp7
        have HR7' := Lib.hid hr7
        have HB7' := Lib.hid hb7
        have HZZ : Hid (newQ n t K h e i = z) := Lib.hid (HNQ.out.trans HZ.out)
        clear hcn7 hp7 hx7 hr7 hb7 hpr hr6 hcr k0 k1 k2 k3 k4 k5 j0 j1 j2 j3 j4 j5 hw7 rF rG HZ HNQ HC5 HP5 HX5 HR5 HB5 HV5 HPA HK HH HLX
        rw [HEE.out] at rI
        obtain ⟨mm, hmm⟩ : ∃ mm, (if z < ee then z else ee) = mm := ⟨_, rfl⟩
        have HMM : Hid (min ee z = mm) := by rw [← hmm]; exact Lib.hid (by split <;> omega)
        have hp8 : Blk ((w7.setCell ⟨d.gL, i, none⟩ (.int .i64 mm)).drew) p7 37 _ := (Below.heap_setCell _ _ _ _ (by show p7 ≠ d.gL; omega)).trans HP7'.out
        have k0 : ((w7.setCell ⟨d.gL, i, none⟩ (.int .i64 mm)).drew).cell? ⟨p7, 0, none⟩ = some (.int .i64 t) := hp8.cell 0
        have k1 : ((w7.setCell ⟨d.gL, i, none⟩ (.int .i64 mm)).drew).cell? ⟨p7, 1, none⟩ = some (.slice (some ⟨d.gC, 0, none⟩) n d.cC) := hp8.cell 1
        have k2 : ((w7.setCell ⟨d.gL, i, none⟩ (.int .i64 mm)).drew).cell? ⟨p7, 2, none⟩ = some (.slice AV W.length qV) := hp8.cell 2
        have k3 : ((w7.setCell ⟨d.gL, i, none⟩ (.int .i64 mm)).drew).cell? ⟨p7, 3, none⟩ = some (.slice (some ⟨d.gH, 0, none⟩) n d.cH) := hp8.cell 3
        have k4 : ((w7.setCell ⟨d.gL, i, none⟩ (.int .i64 mm)).drew).cell? ⟨p7, 4, none⟩ = some (.slice (some ⟨d.gF, 0, none⟩) n d.cF) := hp8.cell 4
        have k5 : ((w7.setCell ⟨d.gL, i, none⟩ (.int .i64 mm)).drew).cell? ⟨p7, 5, none⟩ = some (.slice (some ⟨d.gL, 0, none⟩) n d.cL) := hp8.cell 5
        have HR7 : Hid (Blk ((w7.setCell ⟨d.gL, i, none⟩ (.int .i64 mm)).drew) (w.heap.size + 1) 37 _) := Lib.hid ((Below.heap_setCell _ _ _ _ (by show w.heap.size + 1 ≠ d.gL; omega)).trans HR7'.out)
        have HC7 : Hid (CN (w.heap.size + 2 + 2) n t K h (upd f i z) (upd e i mm) W d (.slice AV W.length qV) ((w7.setCell ⟨d.gL, i, none⟩ (.int .i64 mm)).drew)) := Lib.hid ((HC7'.out.setLeast i mm).same fun _ _ _ => rfl)
        have HB7 : Hid (Below w.heap.size w ((w7.setCell ⟨d.gL, i, none⟩ (.int .i64 mm)).drew)) := Lib.hid (HB7'.out.setCell (by show w.heap.size ≤ d.gL; omega) _).drew
        clear hp8 HP7' HR7' HC7' HB7'
        refine wp_region_quiet_tail 11 (by kernel_rfl) (by kernel_rfl) ?_
        simp only [List.take_succ_cons, List.take_zero, List.drop_succ_cons, List.drop_zero]
        repeat (go_big_quiet_step (fail))
        refine wpQuiet_nil ?_
        go_wp2_with (refine wpList_store_row rfl 37 (.tmp 4) (.tmp 66) rfl (w.heap.size + 1) #[.int .i64 t, .slice (some ⟨d.gC, 0, none⟩) n d.cC, .slice AV W.length qV, .slice (some ⟨d.gH, 0, none⟩) n d.cH, .slice (some ⟨d.gF, 0, none⟩) n d.cF, .slice (some ⟨d.gL, 0, none⟩) n d.cL] rfl rfl _ _ HR7.out (by kernel_rfl) rfl (by simp [Value.oneCell']) ?_)
        refine bodyPost_ret (results_cell_row rfl _ _ _ _ _ (0, 0) _ rfl (setRow_heap _ _ _ _ _ _ HR7.out) Tryd.underlying37 rfl (by kernel_rfl)) rfl ?_
        refine ⟨_, rfl, ?_, ?_⟩
        · try rw [if_neg HIT.out, if_neg HIT.out]
          rw [HZZ.out, HEE.out, HMM.out]
          exact (HC7.out.same fun b hb _ => setRow_other _ _ b _ (by omega)).reads.same (fun _ _ _ => rfl) (Nat.le_refl _) (fun b hb _ => by
          have hb' : w.heap.size + 2 + 2 ≤ b := hb
          show w.heap.size ≤ b
          omega)
        · exact ⟨HB7.out.os, HB7.out.tape, HB7.out.output, by rw [setRow_size]; exact HB7.out.size, fun k hk => (setRow_other _ _ k _ (by omega)).trans (HB7.out.block k hk)⟩


end Go.Proofs.YtminfghiejgieaaDoor

/- A map from pairs of nodes to slices: the slices as values. -/
namespace Go.Proofs.YtminfghiejgieaaDoor
open Go.RowKit Go.Maps
open Go.ChangeMaps (setBlock heap_setBlock_same heap_setBlock_other)
open Go.WideElems (Fit)
set_option linter.unusedVariables false

/-- A value reads as itself. -/
def heldE (v : Value) : Option (DataW Value × List MemPlace) := some (.held v, [])

/-- The map at block b, of at most m entries, has at each pair of nodes the value V. -/
def WayM (w : World) (b n m : Nat) (V : Nat → Nat → Value) : Prop :=
  ∃ D : DataW Value, w.ownsMap Tryd.prog 90 heldE b m D ∧ ∀ r k, r < n → k < n → D.atKey (pairLit r k) (.held (.slice none 0 0)) = .held (V r k)

/-- A pair as a key. -/
abbrev pairV (r k : Nat) : Value := .agg #[.int .i64 r, .int .i64 k]

theorem zeroWay (w : World) : (zeroValue 24).run Tryd.prog w = .ok (.slice none 0 0) w := by kernel_rfl
set_option maxRecDepth 100000 in
theorem arr_klaw : Go.WideMaps.KeyLaw Tryd.prog 90 := deep_law_laid arr_laid (m := 2) (by omega) arr_row arr_at arr_wide

theorem wf_node {r : Nat} (h : r < 8) : (Lit.int .i64 (r : Int)).wf = true := WalkArith.wf_i64 (by omega)
theorem keyOf_node {r k : Nat} (hr : r < 8) (hk : k < 8) : keyOf Tryd.prog 90 (pairV r k) = some (pairLit r k) := keyOf_pair (wf_node hr) (wf_node hk)
theorem pairLit_node {r k r' k' : Nat} (hr : r < 8) (hk : k < 8) (hr' : r' < 8) (hk' : k' < 8) (h : pairLit r k = pairLit r' k') : r = r' ∧ k = k' := by
  obtain ⟨e1, e2⟩ := pairLit_inj (wf_node hr) (wf_node hk) (wf_node hr') (wf_node hk') h
  omega

section
variable {w w' : World} {b n m : Nat} {V V' : Nat → Nat → Value}
theorem WayM.lt (h : WayM w b n m V) : b < w.heap.size := by
  obtain ⟨D, h, _⟩ := h
  exact h.lt
theorem WayM.block (h : WayM w b n m V) : ∃ es clock, w.heap[b]? = some (.map es clock) := by
  obtain ⟨D, ⟨es, clock, hb, _⟩, _⟩ := h
  exact ⟨es, clock, hb⟩
theorem WayM.mono {m' : Nat} (h : WayM w b n m V) (hm : m ≤ m') : WayM w b n m' V := by
  obtain ⟨D, h, k⟩ := h
  exact ⟨D, h.mono hm, k⟩
theorem WayM.of_block (h : WayM w b n m V) (e : w'.heap[b]? = w.heap[b]?) : WayM w' b n m V := by
  obtain ⟨D, ⟨es, clock, hb, F, hs, hD⟩, k⟩ := h
  exact ⟨D, ⟨es, clock, e.trans hb, F, hs, hD⟩, k⟩
theorem WayM.congr (h : WayM w b n m V) (e : ∀ r k, r < n → k < n → V r k = V' r k) : WayM w b n m V' := by
  obtain ⟨D, h, k⟩ := h
  exact ⟨D, h, fun r q hr hq => (k r q hr hq).trans (by rw [e r q hr hq])⟩
theorem WayM.made (w : World) (n : Nat) : WayM (w.alloc (.map #[] 0)) w.heap.size n 0 (fun _ _ => .slice none 0 0) :=
  ⟨.map [], World.ownsMap_made _ _ _ _, fun r k _ _ => rfl⟩

theorem WayM.look (h : WayM w b n m V) (h8 : n ≤ 8) {r k : Nat} (hr : r < n) (hk : k < n) : (Instr.lookup 83 (.map (some b)) (pairV r k) false).run Tryd.prog w = .ok (V r k) w := by
  obtain ⟨D, hown, hat⟩ := h
  obtain ⟨v, ps, hrun, hv⟩ := hown.lookup arr_law Tryd.underlying83 (zeroWay w) (zd := .held (.slice none 0 0)) (zp := []) rfl (keyOf_node (show r < 8 by omega) (show k < 8 by omega))
  rw [hat r k hr hk] at hv
  have : v = V r k := by
    simp only [heldE, Option.some.injEq, Prod.mk.injEq, DataW.held.injEq] at hv
    exact hv.1
  rw [← this]
  exact hrun

/-- The value at a pair of nodes is another one. -/
def setV (V : Nat → Nat → Value) (r k : Nat) (v : Value) : Nat → Nat → Value := fun p q => if p = r ∧ q = k then v else V p q

theorem put_at {D : DataW Value} {r k : Nat} {v : Value} (hm : IsMap D) (h8 : n ≤ 8) (hr : r < n) (hk : k < n) (h : ∀ p q, p < n → q < n → D.atKey (pairLit p q) (.held (.slice none 0 0)) = .held (V p q)) :
    ∀ p q, p < n → q < n → (D.put (pairLit r k) (.held v)).atKey (pairLit p q) (.held (.slice none 0 0)) = .held (setV V r k v p q) := fun p q hp hq => by
  unfold setV
  by_cases e : p = r ∧ q = k
  · obtain ⟨rfl, rfl⟩ := e
    rw [if_pos ⟨rfl, rfl⟩, atKey_put_same hm (arr_law.key (keyOf_node (show p < 8 by omega) (show q < 8 by omega)))]
  · rw [if_neg e, atKey_put_other, h p q hp hq]
    intro e'
    obtain ⟨e1, e2⟩ := pairLit_node (show p < 8 by omega) (show q < 8 by omega) (show r < 8 by omega) (show k < 8 by omega) e'
    exact e ⟨e1, e2⟩

/-- A store. -/
theorem WayM.update (h : WayM w b n m V) (h8 : n ≤ 8) {r k : Nat} (hr : r < n) (hk : k < n) (hm : m < maxLen) (v : Value) :
    ∃ w', (Instr.mapUpdate 83 (.map (some b)) (pairV r k) v).run Tryd.prog w = .ok () w' ∧ WayM w' b n (m + 1) (setV V r k v) ∧ w.grownBy w' (some b) := by
  obtain ⟨D, hown, hat⟩ := h
  obtain ⟨w', h1, h2, h3⟩ := hown.update (val := v) (d := .held v) (ps := []) arr_law Tryd.underlying83 hm (keyOf_node (show r < 8 by omega) (show k < 8 by omega)) rfl
  exact ⟨w', h1, ⟨_, h2, put_at hown.isMap h8 hr hk hat⟩, h3⟩

/-- 'm[k] = f(m[k])': the entry is looked up (and laid, if there is none), and stored later. -/
theorem WayM.entry (h : WayM w b n m V) (h8 : n ≤ 8) {r k : Nat} (hr : r < n) (hk : k < n) (hm : m < maxLen) :
    ∃ st es1 clock1, (Instr.mapEntry 83 (.map (some b)) (pairV r k)).run Tryd.prog w = .ok (.tuple #[V r k, goInt st]) (setBlock w b (.map es1 clock1)) ∧
      ∀ (w2 : World) (v : Value), w2.heap[b]? = some (.map es1 clock1) → ∃ w3, (Instr.entryStore 83 (.map (some b)) (goInt st) v).run Tryd.prog w2 = .ok () w3 ∧ WayM w3 b n (m + 1) (setV V r k v) ∧ w2.grownBy w3 (some b) := by
  have h0 := h
  obtain ⟨D, hown, hat⟩ := h
  have hown0 := hown
  obtain ⟨es, clock, hb, F, hs, hD⟩ := hown
  have hkey := keyOf_node (show r < 8 by omega) (show k < 8 by omega)
  obtain ⟨v0, st, es1, clock1, hrun, hv0, hst⟩ := Go.WideElems.entry_then_store arr_klaw Tryd.underlying83 (fun u => zeroWay u) hb F hkey
  have hlook := h0.look h8 hr hk
  have e0 : v0 = V r k := by
    rcases Go.Maps.fit_look false arr_law Tryd.underlying83 (zeroWay w) hb F hkey with ⟨g1, g2, _⟩ | ⟨e0, y, g1, g2, g3, _⟩
    · rw [hlook] at g1
      have gv : V r k = .slice none 0 0 := by
        simp only [Result.ok.injEq] at g1
        simpa using g1.1
      rcases hv0 with ⟨e1, k1, k2, _⟩ | ⟨_, k2⟩
      · exact absurd k2 (g2 e1 k1)
      · rw [k2, gv]
    · rw [hlook] at g3
      have gv : V r k = e0.val := by
        simp only [Result.ok.injEq] at g3
        simpa using g3.1
      rcases hv0 with ⟨e1, k1, k2, k3⟩ | ⟨k1, _⟩
      · obtain ⟨_, _, s3⟩ := F.stamped
        have : e1 = e0 := by
          have hinj := List.pairwise_map.1 s3
          rcases List.mem_iff_getElem?.1 k1 with ⟨i, hi⟩
          rcases List.mem_iff_getElem?.1 g1 with ⟨j, hj⟩
          rcases Nat.lt_trichotomy i j with hl | hl | hl
          · have := List.pairwise_iff_getElem.1 hinj i j (List.getElem?_eq_some_iff.1 hi).1 (List.getElem?_eq_some_iff.1 hj).1 hl
            rw [(List.getElem?_eq_some_iff.1 hi).2, (List.getElem?_eq_some_iff.1 hj).2] at this
            exact absurd (k2.trans g2.symm) this
          · subst hl
            rw [hi] at hj
            exact Option.some.inj hj
          · have := List.pairwise_iff_getElem.1 hinj j i (List.getElem?_eq_some_iff.1 hj).1 (List.getElem?_eq_some_iff.1 hi).1 hl
            rw [(List.getElem?_eq_some_iff.1 hi).2, (List.getElem?_eq_some_iff.1 hj).2] at this
            exact absurd (g2.trans k2.symm) this
        rw [k3, gv, this]
      · exact absurd g2 (k1 e0 g1)
  subst e0
  refine ⟨st, es1, clock1, hrun, fun w2 v hw2 => ?_⟩
  obtain ⟨es', clock', h1, h2⟩ := hst w2 v hw2
  obtain ⟨w', k1, ⟨D', ⟨es2, clock2, j1, j2, j3, j4⟩, k2⟩, k3⟩ := h0.update h8 hr hk hm v
  rw [h2] at k1
  have ew : setBlock w b (.map es' clock') = w' := by
    simp only [Result.ok.injEq] at k1
    exact k1.2
  rw [← ew, heap_setBlock_same hb] at j1
  refine ⟨_, h1, ⟨D', ⟨es2, clock2, ?_, j2, j3, j4⟩, k2⟩, ⟨rfl, rfl, rfl, by simp [setBlock], fun i _ hi => heap_setBlock_other hw2 _ (fun e => hi (by rw [e]))⟩⟩
  rw [heap_setBlock_same hw2]
  exact j1
end

end Go.Proofs.YtminfghiejgieaaDoor

/- The memory of a net that has never round: every block of it bears a label. -/
namespace Go.Proofs.YtminfghiejgieaaDoor
open Go.RowKit
set_option linter.unusedVariables false

/-- Where the net lies. -/
structure LAd where
  p : Nat
  gC : Nat
  gN : Nat
  gW : Nat
  cC : Nat
  cN : Nat
  BC : Nat → Nat
  CC : Nat → Nat
  BN : Nat → Nat
  BH : Nat → Nat
  CH : Nat → Nat
  QV : Nat → Nat → Value

/-- What waits on a way: a slice, wherever it begins in its block; the block bears the way's label. -/
def QueL (w : World) (lab : Nat → List Nat) (a b : Nat) (v : Value) (l : List Int) : Prop :=
  (l = [] ∧ v = .slice none 0 0) ∨ ∃ g o cap, v = .slice (some ⟨g, o, none⟩) l.length cap ∧ lab g = [8, a, b] ∧ l.length ≤ cap ∧
    (∀ j, j < l.length → w.cell? ⟨g, o + j, none⟩ = some (.int .i64 (l.getD j 0))) ∧ ∀ j, j < cap → (w.cell? ⟨g, o + j, none⟩).isSome = true ∧ w.frozen? ⟨g, o + j, none⟩ = false

section
variable {w w' : World} {lab lab' : Nat → List Nat} {a b : Nat} {v : Value} {l : List Int}
theorem QueL.same (h : QueL w lab a b v l) (hs : ∀ g, lab g = [8, a, b] → w'.heap[g]? = w.heap[g]?) (hl : ∀ g, lab g = [8, a, b] → lab' g = [8, a, b]) : QueL w' lab' a b v l := by
  rcases h with h | ⟨g, o, cap, h1, h2, h3, h4, h5⟩
  · exact .inl h
  · exact .inr ⟨g, o, cap, h1, hl g h2, h3, fun j hj => (World.cell?_of_block (a := ⟨g, o + j, none⟩) (hs g h2)).trans (h4 j hj), fun j hj => by
      rw [World.cell?_of_block (a := ⟨g, o + j, none⟩) (hs g h2), World.frozen?_of_block (a := ⟨g, o + j, none⟩) (hs g h2)]
      exact h5 j hj⟩
theorem QueL.len (h : QueL w lab a b v l) : ∃ A c, v = .slice A l.length c := by
  rcases h with ⟨rfl, rfl⟩ | ⟨g, o, cap, rfl, _⟩
  · exact ⟨none, 0, rfl⟩
  · exact ⟨_, _, rfl⟩
theorem QueL.nil (w : World) (lab : Nat → List Nat) (a b : Nat) : QueL w lab a b (.slice none 0 0) [] := .inl ⟨rfl, rfl⟩
end

/-- The net at block A.p. -/
structure LN (w : World) (lab : Nat → List Nat) (A : LAd) (n t : Nat) (s : LS) : Prop where
  blk : Blk w A.p 86 #[.int .i64 t, .slice (some ⟨A.gC, 0, none⟩) n A.cC, .slice (some ⟨A.gN, 0, none⟩) n A.cN, .map (some A.gW)]
  cst : RowP w A.gC 24 n fun r => .slice (some ⟨A.BC r, 0, none⟩) n (A.CC r)
  cstr : ∀ r, r < n → RowP w (A.BC r) 3 n fun k => .int .i64 (s.K r k)
  nod : RowP w A.gN 87 n fun r => .pointer (some ⟨A.BN r, 0, none⟩)
  nodr : ∀ r, r < n → Blk w (A.BN r) 89 #[.int .i64 (s.f r), .int .i64 (s.e r), .slice (some ⟨A.BH r, 0, none⟩) n (A.CH r)]
  hrdr : ∀ r, r < n → RowP w (A.BH r) 3 n fun k => .int .i64 (s.h r k)
  way : WayM w A.gW n s.c A.QV
  que : ∀ r k, r < n → k < n → QueL w lab r k (A.QV r k) (s.q r k)
  lp : lab A.p = [0]
  lC : lab A.gC = [1]
  lc : ∀ r, r < n → lab (A.BC r) = [2, r]
  lN : lab A.gN = [3]
  ln : ∀ r, r < n → lab (A.BN r) = [4, r]
  lh : ∀ r, r < n → lab (A.BH r) = [5, r]
  lW : lab A.gW = [6]
  free : ∀ b, w.heap.size ≤ b → lab b = []

section
variable {w w' w'' : World} {lab lab' lab'' : Nat → List Nat} {A : LAd} {n t : Nat} {s s' : LS}
theorem LN.as (h : LN w lab A n t s) (e : s = s') : LN w lab A n t s' := e ▸ h
theorem LN.lt (h : LN w lab A n t s) {b : Nat} (hl : lab b ≠ []) : b < w.heap.size := by
  rcases Nat.lt_or_ge b w.heap.size with hlt | hge
  · exact hlt
  · exact absurd (h.free b hge) hl

theorem LN.same (h : LN w lab A n t s) (hs : ∀ b, b < w.heap.size → lab b ≠ [] → w'.heap[b]? = w.heap[b]?) (hz : w.heap.size ≤ w'.heap.size) : LN w' lab A n t s := by
  have hh : ∀ {b : Nat} {l : List Nat}, lab b = l → l ≠ [] → w'.heap[b]? = w.heap[b]? := fun e hl => hs _ (h.lt (by rw [e]; exact hl)) (by rw [e]; exact hl)
  exact ⟨(hh h.lp (by simp)).trans h.blk, h.cst.of_block (hh h.lC (by simp)), fun r hr => (h.cstr r hr).of_block (hh (h.lc r hr) (by simp)), h.nod.of_block (hh h.lN (by simp)), fun r hr => (hh (h.ln r hr) (by simp)).trans (h.nodr r hr), fun r hr => (h.hrdr r hr).of_block (hh (h.lh r hr) (by simp)), h.way.of_block (hh h.lW (by simp)), fun r k hr hk => (h.que r k hr hk).same (fun g hg => hh hg (by simp)) (fun g hg => hg), h.lp, h.lC, h.lc, h.lN, h.ln, h.lh, h.lW, fun b hb => h.free b (Nat.le_trans hz hb)⟩
theorem LN.below (h : LN w lab A n t s) (hb : Below w.heap.size w w') : LN w' lab A n t s := h.same (fun b hlt _ => hb.block b hlt) hb.size
theorem LN.drewN (h : LN w lab A n t s) (k : Nat) : LN (w.drewN k) lab A n t s := h.same (fun _ _ _ => rfl) (Nat.le_refl _)

theorem LN.netCell (h : LN w lab A n t s) : w.cell? ⟨A.p, 0, none⟩ = some (.int .i64 t) ∧ w.cell? ⟨A.p, 1, none⟩ = some (.slice (some ⟨A.gC, 0, none⟩) n A.cC) ∧ w.cell? ⟨A.p, 2, none⟩ = some (.slice (some ⟨A.gN, 0, none⟩) n A.cN) ∧ w.cell? ⟨A.p, 3, none⟩ = some (.map (some A.gW)) :=
  ⟨by simpa using h.blk.cell 0, by simpa using h.blk.cell 1, by simpa using h.blk.cell 2, by simpa using h.blk.cell 3⟩
theorem LN.nodeCell (h : LN w lab A n t s) {r : Nat} (hr : r < n) : w.cell? ⟨A.BN r, 0, none⟩ = some (.int .i64 (s.f r)) ∧ w.cell? ⟨A.BN r, 1, none⟩ = some (.int .i64 (s.e r)) ∧ w.cell? ⟨A.BN r, 2, none⟩ = some (.slice (some ⟨A.BH r, 0, none⟩) n (A.CH r)) :=
  ⟨by simpa using (h.nodr r hr).cell 0, by simpa using (h.nodr r hr).cell 1, by simpa using (h.nodr r hr).cell 2⟩

/-- One block with a label has turned: all else is as it was. -/
theorem LN.turn (h : LN w lab A n t s) {g : Nat} (hs : ∀ b, b < w.heap.size → lab b ≠ [] → b ≠ g → w'.heap[b]? = w.heap[b]?) {b : Nat} {l u : List Nat} (e : lab b = l) (hl : l ≠ []) (hg : lab g = u) (hne : l ≠ u) : w'.heap[b]? = w.heap[b]? :=
  hs b (h.lt (by rw [e]; exact hl)) (by rw [e]; exact hl) (lab_ne e hg hne)

/-- What a node thinks. -/
theorem LN.setFar (h : LN w lab A n t s) {r : Nat} (hr : r < n) (x : Int) : LN (w.setCell ⟨A.BN r, 0, none⟩ (.int .i64 x)) lab A n t { s with f := upd s.f r x } := by
  have hh : ∀ {b : Nat} {l : List Nat}, lab b = l → l ≠ [4, r] → (w.setCell ⟨A.BN r, 0, none⟩ (.int .i64 x)).heap[b]? = w.heap[b]? := fun e hl => Below.heap_setCell _ _ _ _ (lab_ne e (h.ln r hr) hl)
  refine ⟨(hh h.lp (by simp)).trans h.blk, h.cst.of_block (hh h.lC (by simp)), fun p hp => (h.cstr p hp).of_block (hh (h.lc p hp) (by simp)), h.nod.of_block (hh h.lN (by simp)), fun p hp => ?_, fun p hp => (h.hrdr p hp).of_block (hh (h.lh p hp) (by simp)), h.way.of_block (hh h.lW (by simp)), fun p k hp hk => (h.que p k hp hk).same (fun g hg => hh hg (by simp)) (fun g hg => hg), h.lp, h.lC, h.lc, h.lN, h.ln, h.lh, h.lW, fun b hb => h.free b (by rw [size_setCell] at hb; exact hb)⟩
  by_cases e : p = r
  · subst e
    show Blk _ _ _ #[.int .i64 (upd s.f p x p), _, _]
    rw [upd_same]
    exact (h.nodr p hp).set_ 0 (.int .i64 x)
  · show Blk _ _ _ #[.int .i64 (upd s.f r x p), _, _]
    rw [upd_other _ _ e]
    exact (hh (h.ln p hp) (by simpa using e)).trans (h.nodr p hp)
/-- The least that a node thought. -/
theorem LN.setLeast (h : LN w lab A n t s) {r : Nat} (hr : r < n) (x : Int) : LN (w.setCell ⟨A.BN r, 1, none⟩ (.int .i64 x)) lab A n t { s with e := upd s.e r x } := by
  have hh : ∀ {b : Nat} {l : List Nat}, lab b = l → l ≠ [4, r] → (w.setCell ⟨A.BN r, 1, none⟩ (.int .i64 x)).heap[b]? = w.heap[b]? := fun e hl => Below.heap_setCell _ _ _ _ (lab_ne e (h.ln r hr) hl)
  refine ⟨(hh h.lp (by simp)).trans h.blk, h.cst.of_block (hh h.lC (by simp)), fun p hp => (h.cstr p hp).of_block (hh (h.lc p hp) (by simp)), h.nod.of_block (hh h.lN (by simp)), fun p hp => ?_, fun p hp => (h.hrdr p hp).of_block (hh (h.lh p hp) (by simp)), h.way.of_block (hh h.lW (by simp)), fun p k hp hk => (h.que p k hp hk).same (fun g hg => hh hg (by simp)) (fun g hg => hg), h.lp, h.lC, h.lc, h.lN, h.ln, h.lh, h.lW, fun b hb => h.free b (by rw [size_setCell] at hb; exact hb)⟩
  by_cases e : p = r
  · subst e
    show Blk _ _ _ #[_, .int .i64 (upd s.e p x p), _]
    rw [upd_same]
    exact (h.nodr p hp).set_ 1 (.int .i64 x)
  · show Blk _ _ _ #[_, .int .i64 (upd s.e r x p), _]
    rw [upd_other _ _ e]
    exact (hh (h.ln p hp) (by simpa using e)).trans (h.nodr p hp)
/-- What a node heard. -/
theorem LN.setHeard (h : LN w lab A n t s) {r : Nat} (hr : r < n) (k : Nat) (x : Int) : LN (w.setCell ⟨A.BH r, k, none⟩ (.int .i64 x)) lab A n t (s.hear r k x) := by
  have hh : ∀ {b : Nat} {l : List Nat}, lab b = l → l ≠ [5, r] → (w.setCell ⟨A.BH r, k, none⟩ (.int .i64 x)).heap[b]? = w.heap[b]? := fun e hl => Below.heap_setCell _ _ _ _ (lab_ne e (h.lh r hr) hl)
  refine ⟨(hh h.lp (by simp)).trans h.blk, h.cst.of_block (hh h.lC (by simp)), fun p hp => (h.cstr p hp).of_block (hh (h.lc p hp) (by simp)), h.nod.of_block (hh h.lN (by simp)), fun p hp => (hh (h.ln p hp) (by simp)).trans (h.nodr p hp), fun p hp => ?_, h.way.of_block (hh h.lW (by simp)), fun p k hp hk => (h.que p k hp hk).same (fun g hg => hh hg (by simp)) (fun g hg => hg), h.lp, h.lC, h.lc, h.lN, h.ln, h.lh, h.lW, fun b hb => h.free b (by rw [size_setCell] at hb; exact hb)⟩
  by_cases e : p = r
  · subst e
    refine ((h.hrdr p hp).set k _).congr fun j _ => ?_
    unfold upd LS.hear
    by_cases e : j = k <;> simp [e]
  · refine ((h.hrdr p hp).of_block (hh (h.lh p hp) (by simpa using e))).congr fun j _ => ?_
    simp [LS.hear, e]
/-- What a link costs, from one of both. -/
theorem LN.setCost (h : LN w lab A n t s) {r : Nat} (hr : r < n) (k : Nat) (x : Int) : LN (w.setCell ⟨A.BC r, k, none⟩ (.int .i64 x)) lab A n t (s.dear1 r k x) := by
  have hh : ∀ {b : Nat} {l : List Nat}, lab b = l → l ≠ [2, r] → (w.setCell ⟨A.BC r, k, none⟩ (.int .i64 x)).heap[b]? = w.heap[b]? := fun e hl => Below.heap_setCell _ _ _ _ (lab_ne e (h.lc r hr) hl)
  refine ⟨(hh h.lp (by simp)).trans h.blk, h.cst.of_block (hh h.lC (by simp)), fun p hp => ?_, h.nod.of_block (hh h.lN (by simp)), fun p hp => (hh (h.ln p hp) (by simp)).trans (h.nodr p hp), fun p hp => (h.hrdr p hp).of_block (hh (h.lh p hp) (by simp)), h.way.of_block (hh h.lW (by simp)), fun p k hp hk => (h.que p k hp hk).same (fun g hg => hh hg (by simp)) (fun g hg => hg), h.lp, h.lC, h.lc, h.lN, h.ln, h.lh, h.lW, fun b hb => h.free b (by rw [size_setCell] at hb; exact hb)⟩
  by_cases e : p = r
  · subst e
    refine ((h.cstr p hp).set k _).congr fun j _ => ?_
    unfold upd LS.dear1
    by_cases e : j = k <;> simp [e]
  · refine ((h.cstr p hp).of_block (hh (h.lc p hp) (by simpa using e))).congr fun j _ => ?_
    simp [LS.dear1, e]
/-- A way's slice is another one; its block may have turned, or be a new one; so has the map. -/
theorem LN.swap (h : LN w lab A n t s) {r k : Nat} (hr : r < n) (hk : k < n) {v : Value} {l : List Int} (hs : ∀ b, b < w.heap.size → lab b ≠ [] → lab b ≠ [8, r, k] → b ≠ A.gW → w'.heap[b]? = w.heap[b]?) (hz : w.heap.size ≤ w'.heap.size)
    (hm : WayM w' A.gW n (s.c + 1) (setV A.QV r k v)) (hl : ∀ b, b < w.heap.size → lab' b = lab b) (hf : ∀ b, w'.heap.size ≤ b → lab' b = []) (hq : QueL w' lab' r k v l) :
    LN w' lab' { A with QV := setV A.QV r k v } n t (s.way r k l) := by
  have hL : ∀ {b : Nat} {l : List Nat}, lab b = l → l ≠ [] → lab' b = l := fun e hb => (hl _ (h.lt (by rw [e]; exact hb))).trans e
  have hh : ∀ {b : Nat} {l : List Nat}, lab b = l → l ≠ [] → l ≠ [8, r, k] → l ≠ [6] → w'.heap[b]? = w.heap[b]? := fun e h0 h1 h2 => hs _ (h.lt (by rw [e]; exact h0)) (by rw [e]; exact h0) (by rw [e]; exact h1) (lab_ne e h.lW h2)
  refine ⟨(hh h.lp (by simp) (by simp) (by simp)).trans h.blk, h.cst.of_block (hh h.lC (by simp) (by simp) (by simp)), fun p hp => (h.cstr p hp).of_block (hh (h.lc p hp) (by simp) (by simp) (by simp)), h.nod.of_block (hh h.lN (by simp) (by simp) (by simp)), fun p hp => (hh (h.ln p hp) (by simp) (by simp) (by simp)).trans (h.nodr p hp), fun p hp => (h.hrdr p hp).of_block (hh (h.lh p hp) (by simp) (by simp) (by simp)), hm, fun p q hp hq' => ?_, hL h.lp (by simp), hL h.lC (by simp), fun p hp => hL (h.lc p hp) (by simp), hL h.lN (by simp), fun p hp => hL (h.ln p hp) (by simp), fun p hp => hL (h.lh p hp) (by simp), hL h.lW (by simp), hf⟩
  show QueL w' lab' p q (if p = r ∧ q = k then v else A.QV p q) (if p = r ∧ q = k then l else s.q p q)
  by_cases e : p = r ∧ q = k
  · obtain ⟨rfl, rfl⟩ := e
    rw [if_pos ⟨rfl, rfl⟩, if_pos ⟨rfl, rfl⟩]
    exact hq
  · rw [if_neg e, if_neg e]
    exact (h.que p q hp hq').same (fun g hg => hh hg (by simp) (by simpa using e) (by simp)) (fun g hg => hL hg (by simp))

/-- The footprint of a store into the net. -/
theorem AF.setCell (h : AF lab w lab' w') {g : Nat} {l : List Nat} (hg : lab' g = l) (hl : l ≠ []) (i : Nat) (v : Value) : AF lab w lab' (w'.setCell ⟨g, i, none⟩ v) :=
  ⟨h.touch.setCell (by
    show lab g ≠ [] ∨ w.heap.size ≤ g
    rcases Nat.lt_or_ge g w.heap.size with h' | h'
    · left; rw [← h.same _ h', hg]; exact hl
    · exact .inr h') _, h.same⟩
end

end Go.Proofs.YtminfghiejgieaaDoor

/- The net's small walks: one, near, Dist, Least. -/
namespace Go.Proofs.YtminfghiejgieaaDoor
open Go.RowKit
set_option linter.unusedVariables false

/-- Is it a node? -/
def oneE (n : Nat) (a : Int) : Int := if a < 0 ∨ n ≤ a then 1 else 0

set_option maxRecDepth 100000 in
set_option maxHeartbeats 1000000 in
theorem lfiOne (lab : Nat → List Nat) (A : LAd) (n t : Nat) (s : LS) (a : Int) (w : World) (h : LN w lab A n t s) (h8 : n ≤ 8) :
    Calls Tryd.prog 53 #[.pointer (some ⟨A.p, 0, none⟩), .int .i64 a] w fun e w' => e = .returned (errV (oneE n a)) ∧ w' = w := by
  obtain ⟨-, -, f2, -⟩ := h.netCell
  have h8' : (n : Int) ≤ 8 := by omega
  by_cases h1 : a < 0
  · have e : oneE n a = 1 := if_pos (by omega)
    rw [e]
    have d1 : decide (a < 0) = true := decide_eq_true h1
    clear h e
    go_enter Tryd.func53, Tryd.ntmps53
    go_wp2_with fail
    go_ret
    exact ⟨rfl, rfl⟩
  · have d1 : decide (a < 0) = false := decide_eq_false h1
    obtain ⟨x, rfl⟩ : ∃ x : Nat, a = x := ⟨a.toNat, by omega⟩
    by_cases h2 : n ≤ x
    · have e : oneE n x = 1 := if_pos (by omega)
      rw [e]
      have d2 : decide (n ≤ x) = true := decide_eq_true h2
      clear h e
      go_enter Tryd.func53, Tryd.ntmps53
      go_wp2_with fail
      go_ret
      exact ⟨rfl, rfl⟩
    · have e : oneE n x = 0 := if_neg (by omega)
      rw [e]
      have d2 : decide (n ≤ x) = false := decide_eq_false h2
      clear h e
      go_enter Tryd.func53, Tryd.ntmps53
      go_wp2_with fail
      go_ret
      exact ⟨rfl, rfl⟩

section
variable {lab : Nat → List Nat} {A : LAd} {n t : Nat} {s : LS} {a b : Int} {w : World}
theorem lfiOne_ok (h : LN w lab A n t s) (h8 : n ≤ 8) (h0 : 0 ≤ a) (h1 : a < n) :
    Calls Tryd.prog 53 #[.pointer (some ⟨A.p, 0, none⟩), .int .i64 a] w fun e w' => e = .returned .nilIface ∧ w' = w := by
  have := lfiOne lab A n t s a w h h8
  rw [show oneE n a = 0 from if_neg (by omega)] at this
  exact this
theorem lfiOne_bad (h : LN w lab A n t s) (h8 : n ≤ 8) (h0 : a < 0 ∨ n ≤ a) :
    Calls Tryd.prog 53 #[.pointer (some ⟨A.p, 0, none⟩), .int .i64 a] w fun e w' => e = .returned (errNo 1) ∧ w' = w := by
  have := lfiOne lab A n t s a w h h8
  rw [show oneE n a = 1 from if_pos h0] at this
  exact this
end


set_option maxRecDepth 100000 in
set_option maxHeartbeats 1000000 in
theorem lfiNear (lab : Nat → List Nat) (A : LAd) (n t : Nat) (s : LS) (a b : Int) (w : World) (h : LN w lab A n t s) (h8 : n ≤ 8) :
    Calls Tryd.prog 50 #[.pointer (some ⟨A.p, 0, none⟩), .int .i64 a, .int .i64 b] w fun e w' => e = .returned (errV (nearE n s.K a b)) ∧ w' = w := by
  have HA := Lib.hid h
  obtain ⟨-, f1, -, -⟩ := h.netCell
  have h8' : (n : Int) ≤ 8 := by omega
  by_cases h1 : a < 0 ∨ n ≤ a
  · have e : nearE n s.K a b = 1 := if_pos (by omega)
    rw [e]
    have HC := Lib.hid (lfiOne_bad (w := w) h h8 h1)
    clear h f1 h1 e
    go_enter Tryd.func50, Tryd.ntmps50
    go_wp2_with fail
    refine HC.out.mono ?_
    rintro e w1 ⟨rfl, h1⟩
    subst w1
    go_wp2_with fail
    go_ret
    exact ⟨rfl, rfl⟩
  · obtain ⟨x, rfl⟩ : ∃ x : Nat, a = x := ⟨a.toNat, by omega⟩
    have HC := Lib.hid (lfiOne_ok (w := w) (a := x) h h8 (by omega) (by omega))
    by_cases h2 : b < 0 ∨ n ≤ b
    · have e : nearE n s.K x b = 1 := if_pos (by omega)
      rw [e]
      have HC2 := Lib.hid (lfiOne_bad (w := w) h h8 h2)
      clear h f1 h1 h2 e
      go_enter Tryd.func50, Tryd.ntmps50
      go_wp2_with fail
      refine HC.out.mono ?_
      rintro e w1 ⟨rfl, h1⟩
      subst w1
      go_wp2_with fail
      refine HC2.out.mono ?_
      rintro e w1 ⟨rfl, h1⟩
      subst w1
      go_wp2_with fail
      go_ret
      exact ⟨rfl, rfl⟩
    · obtain ⟨y, rfl⟩ : ∃ y : Nat, b = y := ⟨b.toNat, by omega⟩
      have HC2 := Lib.hid (lfiOne_ok (w := w) (a := y) h h8 (by omega) (by omega))
      have hx : x < n := by omega
      have hy : y < n := by omega
      have hx' : (x : Int) < n := by omega
      have hy' : (y : Int) < n := by omega
      have r1 := h.cst.cell hx
      have r2 := (h.cstr x hx).cell hy
      obtain ⟨k, hk⟩ : ∃ k, s.K x y = k := ⟨_, rfl⟩
      rw [hk] at r2
      have HKK := Lib.hid hk
      clear h hk
      by_cases h5 : x = y
      · have e : nearE n s.K x y = 2 := by
          unfold nearE
          rw [if_neg (by omega), if_pos (.inl (by omega))]
        rw [e]
        have d5 : ((x : Int) == (y : Int)) = true := by simp [h5]
        have d5' : (x == y) = true := by simp [h5]
        clear h1 h2 f1 r1 r2 h5 e
        go_enter Tryd.func50, Tryd.ntmps50
        go_wp2_with fail
        refine HC.out.mono ?_
        rintro e w1 ⟨rfl, h1⟩
        subst w1
        go_wp2_with fail
        refine HC2.out.mono ?_
        rintro e w1 ⟨rfl, h1⟩
        subst w1
        go_wp2_with fail
        go_ret
        exact ⟨rfl, rfl⟩
      · have d5 : ((x : Int) == (y : Int)) = false := beq_false_of_ne (by omega)
        have d5' : (x == y) = false := beq_false_of_ne h5
        have en : nearE n s.K x y = if k = 16 then 2 else 0 := by
          unfold nearE
          have e1 : ((x : Int)).toNat = x := by omega
          have e2 : ((y : Int)).toNat = y := by omega
          rw [if_neg (by omega), e1, e2, HKK.out]
          by_cases h16 : k = 16
          · rw [if_pos (.inr h16), if_pos h16]
          · rw [if_neg (by omega), if_neg h16]
        rw [en]
        clear en h1 h2
        by_cases h16 : k = 16
        · subst h16
          go_enter Tryd.func50, Tryd.ntmps50
          go_wp2_with fail
          refine HC.out.mono ?_
          rintro e w1 ⟨rfl, h1⟩
          subst w1
          go_wp2_with fail
          refine HC2.out.mono ?_
          rintro e w1 ⟨rfl, h1⟩
          subst w1
          go_wp2_with fail
          go_ret
          exact ⟨rfl, rfl⟩
        · have d6 : (k == 16) = false := beq_false_of_ne h16
          rw [if_neg h16]
          go_enter Tryd.func50, Tryd.ntmps50
          go_wp2_with fail
          refine HC.out.mono ?_
          rintro e w1 ⟨rfl, h1⟩
          subst w1
          go_wp2_with fail
          refine HC2.out.mono ?_
          rintro e w1 ⟨rfl, h1⟩
          subst w1
          go_wp2_with fail
          go_ret
          exact ⟨rfl, rfl⟩

section
variable {lab : Nat → List Nat} {A : LAd} {n t : Nat} {s : LS} {a b : Int} {w : World}
theorem lfiNear_ok (h : LN w lab A n t s) (h8 : n ≤ 8) (hn : nearE n s.K a b = 0) :
    Calls Tryd.prog 50 #[.pointer (some ⟨A.p, 0, none⟩), .int .i64 a, .int .i64 b] w fun e w' => e = .returned .nilIface ∧ w' = w := by
  have := lfiNear lab A n t s a b w h h8
  rw [hn] at this
  exact this
theorem lfiNear_bad (h : LN w lab A n t s) (h8 : n ≤ 8) {k : Int} (hn : nearE n s.K a b = k) (hk : k ≠ 0) :
    Calls Tryd.prog 50 #[.pointer (some ⟨A.p, 0, none⟩), .int .i64 a, .int .i64 b] w fun e w' => e = .returned (errNo k) ∧ w' = w := by
  have := lfiNear lab A n t s a b w h h8
  rw [hn] at this
  unfold errV at this
  rw [if_neg hk] at this
  exact this
end


set_option maxRecDepth 100000 in
set_option maxHeartbeats 1000000 in
theorem lfiDist (lab : Nat → List Nat) (A : LAd) (n t : Nat) (s : LS) (i : Int) (w : World) (h : LN w lab A n t s) (h8 : n ≤ 8) :
    Calls Tryd.prog 29 #[.pointer (some ⟨A.p, 0, none⟩), .int .i64 i] w fun e w' => e = .returned (if i < 0 ∨ n ≤ i then .tuple #[.int .i64 0, errNo 1] else .tuple #[.int .i64 (s.f i.toNat), .nilIface]) ∧ w' = w := by
  obtain ⟨-, -, f2, -⟩ := h.netCell
  have h8' : (n : Int) ≤ 8 := by omega
  by_cases h1 : i < 0 ∨ n ≤ i
  · rw [if_pos h1]
    have HC := Lib.hid (lfiOne_bad (w := w) h h8 h1)
    clear h h1
    go_enter Tryd.func29, Tryd.ntmps29
    go_wp2_with fail
    refine HC.out.mono ?_
    rintro e w1 ⟨rfl, h1⟩
    subst w1
    go_wp2_with fail
    go_ret2
    exact ⟨rfl, rfl⟩
  · obtain ⟨x, rfl⟩ : ∃ x : Nat, i = x := ⟨i.toNat, by omega⟩
    rw [if_neg h1, show ((x : Int)).toNat = x by omega]
    have hx : x < n := by omega
    have hx' : (x : Int) < n := by omega
    have HC := Lib.hid (lfiOne_ok (w := w) (a := x) h h8 (by omega) (by omega))
    have r1 := h.nod.cell hx
    obtain ⟨a0, a1, -⟩ := h.nodeCell hx
    clear h h1
    go_enter Tryd.func29, Tryd.ntmps29
    go_wp2_with fail
    refine HC.out.mono ?_
    rintro e w1 ⟨rfl, h1⟩
    subst w1
    go_wp2_with fail
    go_ret2
    exact ⟨rfl, rfl⟩

set_option maxRecDepth 100000 in
set_option maxHeartbeats 1000000 in
theorem lfiLeast (lab : Nat → List Nat) (A : LAd) (n t : Nat) (s : LS) (i : Int) (w : World) (h : LN w lab A n t s) (h8 : n ≤ 8) :
    Calls Tryd.prog 30 #[.pointer (some ⟨A.p, 0, none⟩), .int .i64 i] w fun e w' => e = .returned (if i < 0 ∨ n ≤ i then .tuple #[.int .i64 0, errNo 1] else .tuple #[.int .i64 (s.e i.toNat), .nilIface]) ∧ w' = w := by
  obtain ⟨-, -, f2, -⟩ := h.netCell
  have h8' : (n : Int) ≤ 8 := by omega
  by_cases h1 : i < 0 ∨ n ≤ i
  · rw [if_pos h1]
    have HC := Lib.hid (lfiOne_bad (w := w) h h8 h1)
    clear h h1
    go_enter Tryd.func30, Tryd.ntmps30
    go_wp2_with fail
    refine HC.out.mono ?_
    rintro e w1 ⟨rfl, h1⟩
    subst w1
    go_wp2_with fail
    go_ret2
    exact ⟨rfl, rfl⟩
  · obtain ⟨x, rfl⟩ : ∃ x : Nat, i = x := ⟨i.toNat, by omega⟩
    rw [if_neg h1, show ((x : Int)).toNat = x by omega]
    have hx : x < n := by omega
    have hx' : (x : Int) < n := by omega
    have HC := Lib.hid (lfiOne_ok (w := w) (a := x) h h8 (by omega) (by omega))
    have r1 := h.nod.cell hx
    obtain ⟨a0, a1, -⟩ := h.nodeCell hx
    clear h h1
    go_enter Tryd.func30, Tryd.ntmps30
    go_wp2_with fail
    refine HC.out.mono ?_
    rintro e w1 ⟨rfl, h1⟩
    subst w1
    go_wp2_with fail
    go_ret2
    exact ⟨rfl, rfl⟩

end Go.Proofs.YtminfghiejgieaaDoor

/- The net's next ones. -/
namespace Go.Proofs.YtminfghiejgieaaDoor
open Go.RowKit
set_option linter.unusedVariables false

set_option maxRecDepth 100000 in
set_option maxHeartbeats 1000000 in
theorem lfiNexts' (lab : Nat → List Nat) (A : LAd) (n t : Nat) (s : LS) (i : Nat) (w : World) (h : LN w lab A n t s) (h8 : n ≤ 8) (hi : i < n) :
    Calls Tryd.prog 54 #[.pointer (some ⟨A.p, 0, none⟩), .int .i64 i] w fun e w' => ∃ v, e = .returned v ∧ OwnV w' w.heap.size v (s.nexts n t i).length (atL (s.nexts n t i)) ∧ Below w.heap.size w w' := by
  have HA := Lib.hid h
  obtain ⟨-, -, f2, -⟩ := h.netCell
  have h8' : (n : Int) ≤ 8 := by omega
  have hi' : (i : Int) < n := by omega
  have r1 := h.nod.cell hi
  obtain ⟨-, -, r2⟩ := h.nodeCell hi
  clear h
  obtain ⟨p, hp⟩ : ∃ p, s.isN n t i = p := ⟨_, rfl⟩
  have HPE := Lib.hid hp
  have hnx : s.nexts n t i = pickL p n := by
    rw [← hp]; rfl
  rw [hnx]
  clear hnx hp
  go_enter Tryd.func54, Tryd.ntmps54
  go_wp2_with fail
  clear f2 r1 r2
  go_loopw [5, 19] (fun u q wr => ∃ k : Nat, k ≤ n ∧ q = .int .i64 k ∧ OwnV wr w.heap.size u (pickL p k).length (atL (pickL p k)) ∧ Below w.heap.size w wr) (fun _ q _ => n - (intOf q).toNat)
  case atStart => exact ⟨0, by omega, rfl, OwnV.nil _ _ _, Below.refl _ _⟩
  case round =>
    obtain ⟨k, hk, rfl, hu, hb⟩ := hrel
    have HU := Lib.hid hu
    have HB := Lib.hid hb
    have hlen := pickL_len p k
    clear hu hb
    by_cases hlt : k < n
    · have hlt' : (k : Int) < n := by omega
      have hA := HA.out.below HB.out
      obtain ⟨g0, -, g2, -⟩ := hA.netCell
      have g3 := hA.nod.cell hi
      obtain ⟨-, g4, -⟩ := hA.nodeCell hi
      have g5 := (hA.hrdr i hi).cell hlt
      obtain ⟨d, hd⟩ : ∃ d, s.h i k = d := ⟨_, rfl⟩
      obtain ⟨e, he⟩ : ∃ e, s.e i = e := ⟨_, rfl⟩
      rw [hd] at g5
      rw [he] at g4
      have HPV : Hid (p k = decide (i ≠ t ∧ nearE n s.K i k = 0 ∧ d < e)) := by
        show p k = _
        rw [← HPE.out, ← hd, ← he]; rfl
      have HW := Lib.hid hA
      clear hA hd he
      by_cases hit : i = t
      · have b1 : ((i : Int) != (t : Int)) = false := by simp [hit]
        have b2 : (i != t) = false := by simp [hit]
        have HPN : Hid (p k = false) := Lib.hid (HPV.out.trans (decide_eq_false fun h => h.1 hit))
        clear hit
        go_wp2_with fail
        go_roundw
        case rel => exact ⟨k + 1, by omega, by go_num, by rw [pickL_no HPN.out]; exact HU.out, HB.out⟩
        case measure => simp [intOf]; omega
      · have b1 : ((i : Int) != (t : Int)) = true := bne_iff_ne.2 (by omega)
        have b2 : (i != t) = true := bne_iff_ne.2 hit
        by_cases hn : nearE n s.K i k = 0
        · have HC := Lib.hid (lfiNear_ok (a := i) (b := k) (w := wr) HW.out h8 hn)
          by_cases hde : d < e
          · have b3 : decide (d < e) = true := decide_eq_true hde
            have HPY : Hid (p k = true) := Lib.hid (HPV.out.trans (decide_eq_true ⟨hit, hn, hde⟩))
            clear hit hn hde
            go_wp2_with fail
            refine HC.out.mono ?_
            rintro e1 w1 ⟨rfl, h1⟩
            subst w1
            go_wp2_with (at_builtin; refine wpList_append_int rfl (.tmp 51) (.tmp 53) rfl w.heap.size _ _ _ rfl (HU.out.alloc _) k _ rfl (cell_new_at _ _ _ rfl) (by omega) (by have := HB.out.size; simp; omega) ?_)
            intro g6 cap6 w6 hT6 hb6 _ _
            have HT6 : Hid (OwnV w6 w.heap.size (.slice (some ⟨g6, 0, none⟩) ((pickL p k).length + 1) cap6) (pickL p (k + 1)).length (atL (pickL p (k + 1)))) := by
              rw [pickL_yes HPY.out, List.length_append]
              exact OwnV.congr hT6 (atL_snoc _ _)
            have HB6 : Hid (Below w.heap.size w w6) := (HB.out.alloc HB.out.size _).trans hb6
            clear hT6 hb6
            go_wp2_with fail
            go_roundw
            case rel => exact ⟨k + 1, by omega, by go_num, HT6.out, HB6.out⟩
            case measure => simp [intOf]; omega
          · have b3 : decide (d < e) = false := decide_eq_false hde
            have HPN : Hid (p k = false) := Lib.hid (HPV.out.trans (decide_eq_false fun h => hde h.2.2))
            clear hit hn hde
            go_wp2_with fail
            refine HC.out.mono ?_
            rintro e1 w1 ⟨rfl, h1⟩
            subst w1
            go_wp2_with fail
            go_roundw
            case rel => exact ⟨k + 1, by omega, by go_num, by rw [pickL_no HPN.out]; exact HU.out, HB.out⟩
            case measure => simp [intOf]; omega
        · have HPN : Hid (p k = false) := Lib.hid (HPV.out.trans (decide_eq_false fun h => hn h.2.1))
          obtain ⟨v, hv, hv0⟩ : ∃ v, nearE n s.K i k = v ∧ v ≠ 0 := ⟨_, rfl, hn⟩
          have HC := Lib.hid (lfiNear_bad (a := i) (b := k) (w := wr) HW.out h8 hv hv0)
          clear hit hn hv hv0
          go_wp2_with fail
          refine HC.out.mono ?_
          rintro e1 w1 ⟨rfl, h1⟩
          subst w1
          go_wp2_with fail
          go_roundw
          case rel => exact ⟨k + 1, by omega, by go_num, by rw [pickL_no HPN.out]; exact HU.out, HB.out⟩
          case measure => simp [intOf]; omega
    · have ek : k = n := by omega
      subst ek
      go_wp2_with fail
      go_ret
      exact ⟨_, rfl, HU.out, HB.out⟩

set_option maxRecDepth 100000 in
set_option maxHeartbeats 1000000 in
theorem lfiNexts (lab : Nat → List Nat) (A : LAd) (n t : Nat) (s : LS) (i : Nat) (x : Int) (hx : x = (i : Int)) (w : World) (h : LN w lab A n t s) (h8 : n ≤ 8) (hi : i < n) :
    Calls Tryd.prog 31 #[.pointer (some ⟨A.p, 0, none⟩), .int .i64 x] w fun e w' => ∃ v, e = .returned (.tuple #[v, .nilIface]) ∧ OwnV w' w.heap.size v (s.nexts n t i).length (atL (s.nexts n t i)) ∧ Below w.heap.size w w' := by
  subst hx
  have HC := Lib.hid (lfiOne_ok (a := i) (w := w) h h8 (by omega) (by omega))
  have HC2 := Lib.hid (lfiNexts' lab A n t s i w h h8 hi)
  clear h
  go_enter Tryd.func31, Tryd.ntmps31
  go_wp2_with fail
  refine HC.out.mono ?_
  rintro e1 w1 ⟨rfl, h1⟩
  subst w1
  go_wp2_with fail
  refine HC2.out.mono ?_
  rintro e2 w2 ⟨v, rfl, hv, hb⟩
  have HV := Lib.hid hv
  have HB := Lib.hid hb
  clear hv hb
  go_wp2_with fail
  go_ret2
  exact ⟨v, rfl, HV.out, HB.out⟩

set_option maxRecDepth 100000 in
set_option maxHeartbeats 1000000 in
theorem lfiNexts_bad (lab : Nat → List Nat) (A : LAd) (n t : Nat) (s : LS) (x : Int) (w : World) (h : LN w lab A n t s) (h8 : n ≤ 8) (hx : x < 0 ∨ n ≤ x) :
    Calls Tryd.prog 31 #[.pointer (some ⟨A.p, 0, none⟩), .int .i64 x] w fun e w' => e = .returned (.tuple #[.slice none 0 0, errNo 1]) ∧ w' = w := by
  have HC := Lib.hid (lfiOne_bad (w := w) h h8 hx)
  clear h hx
  go_enter Tryd.func31, Tryd.ntmps31
  go_wp2_with fail
  refine HC.out.mono ?_
  rintro e1 w1 ⟨rfl, h1⟩
  subst w1
  go_wp2_with fail
  go_ret2
  exact ⟨rfl, rfl⟩

end Go.Proofs.YtminfghiejgieaaDoor

/- A node of the net thinks anew. -/
namespace Go.Proofs.YtminfghiejgieaaDoor
open Go.RowKit
set_option linter.unusedVariables false

attribute [local go_sem high] run_min_pair run_max_pair

set_option maxRecDepth 100000 in
set_option maxHeartbeats 1000000 in
theorem lfiAnew (lab : Nat → List Nat) (A : LAd) (n t : Nat) (s : LS) (i : Nat) (x : Int) (hx : x = (i : Int)) (w : World) (h : LN w lab A n t s) (h8 : n ≤ 8) (hi : i < n) (hK : CostM n s.K) (hH : ∀ r k, r < n → k < n → 0 ≤ s.h r k ∧ s.h r k ≤ 16) :
    Calls Tryd.prog 51 #[.pointer (some ⟨A.p, 0, none⟩), .int .i64 x] w fun e w' => e = .returned (.tuple #[]) ∧ LN w' lab A n t (s.anew n t i) ∧ AF lab w lab w' := by
  subst hx
  have HA := Lib.hid h
  obtain ⟨f0, -, f2, -⟩ := h.netCell
  have h8' : (n : Int) ≤ 8 := by omega
  have hi' : (i : Int) < n := by omega
  have r1 := h.nod.cell hi
  obtain ⟨a0, a1, a2⟩ := h.nodeCell hi
  have a3 := (h.nodr i hi).frozen 0
  by_cases hit : i = t
  · have b1 : ((i : Int) == (t : Int)) = true := by simp [hit]
    have b2 : (i == t) = true := by simp [hit]
    have HS : Hid (s.anew n t i = s) := Lib.hid (by rw [hit]; exact anew_self s)
    clear hit h
    go_enter Tryd.func51, Tryd.ntmps51
    go_wp2_with fail
    refine bodyPost_ret (results_none rfl _ _ _) rfl ?_
    exact ⟨rfl, HA.out.as HS.out.symm, AF.refl _ _⟩
  · have b1 : ((i : Int) == (t : Int)) = false := beq_false_of_ne (by omega)
    have b2 : (i == t) = false := beq_false_of_ne hit
    have HIT := Lib.hid hit
    have hN := h.setFar hi 16
    have hF : AF lab w lab (w.setCell ⟨A.BN i, 0, none⟩ (.int .i64 16)) := (AF.refl lab w).setCell (h.ln i hi) (by simp) 0 _
    have HN := Lib.hid hN
    have HF := Lib.hid hF
    clear hit h hN hF
    go_enter Tryd.func51, Tryd.ntmps51
    go_wp2_with fail
    obtain ⟨w1, hw1⟩ : ∃ w1, w.setCell ⟨A.BN i, 0, none⟩ (.int .i64 16) = w1 := ⟨_, rfl⟩
    rw [hw1] at HN HF ⊢
    clear hw1 a0 a1 a2 a3 r1 f0 f2
    have hcall := lfiNexts' lab A n t _ i w1 HN.out h8 hi
    rw [show LS.nexts { s with f := upd s.f i 16 } n t i = s.nexts n t i from rfl] at hcall
    have HC := Lib.hid hcall
    clear hcall
    obtain ⟨L, hL⟩ : ∃ L, s.nexts n t i = L := ⟨_, rfl⟩
    have HLE := Lib.hid hL
    rw [hL] at HC
    have hLn : L.length ≤ n := by rw [← hL]; exact pickL_len _ _
    have HLV : Hid (∀ j, j < L.length → ∃ v : Nat, atL L j = v ∧ v < n) := fun j hj => by
      rw [← hL] at hj ⊢
      obtain ⟨v, h1, h2, _⟩ := pick_at hj
      exact ⟨v, h1, h2⟩
    clear hL
    refine HC.out.mono ?_
    rintro e1 w2 ⟨v, rfl, hv, hb⟩
    obtain ⟨Av, cv, rfl, hvec⟩ := hv.vec
    have HVEC := Lib.hid hvec
    have HN2 : Hid (LN w2 lab A n t { s with f := upd s.f i (leastL (s.K i) (s.h i) L 0) }) := HN.out.below hb
    have HF2 : Hid (AF lab w lab w2) := HF.out.trans (AF.of_below hb)
    have HO : Hid (∀ g, (Value.slice Av L.length cv).ownBlock = some g → w1.heap.size ≤ g ∧ g < w2.heap.size) := fun g hg => World.ownsRow.lt hv g hg
    have HSZ := Lib.hid hb.size
    have HVO := Lib.hid hv
    have HLT : Hid (A.BN i < w1.heap.size) := (HN.out.nodr i hi).lt
    clear hv hb hvec HN HF HC
    go_wp2_with fail
    go_loopw [27] (fun q wr => ∃ j : Nat, j ≤ L.length ∧ q = .int .i64 j ∧ OwnV wr w1.heap.size (.slice Av L.length cv) L.length (atL L) ∧ LN wr lab A n t { s with f := upd s.f i (leastL (s.K i) (s.h i) L j) } ∧ AF lab w lab wr) (fun q _ => L.length - (intOf q).toNat)
    case atStart => exact ⟨0, by omega, rfl, HVO.out, HN2.out, HF2.out⟩
    case round =>
      obtain ⟨j, hj, rfl, hv, hA, hF⟩ := hrel
      have HVR := Lib.hid hv
      have HAR := Lib.hid hA
      have HFR := Lib.hid hF
      clear hv hF HN2 HF2
      by_cases hlt : j < L.length
      · have hlt' : (j : Int) < L.length := by omega
        obtain ⟨k, hk, hkn⟩ := HLV.out j hlt
        have hkn' : (k : Int) < n := by omega
        obtain ⟨A1, c1, hv1, hvr⟩ := HVR.out.vec
        have hav : A1 = Av := by
          simp only [Value.slice.injEq] at hv1
          exact hv1.1.symm
        subst hav
        obtain ⟨ad, rfl, -, hc⟩ := hvr j hlt
        rw [hk] at hc
        obtain ⟨-, g1, -, -⟩ := hA.netCell
        have g2 := hA.cst.cell hi
        have g3 := (hA.cstr i hi).cell hkn
        obtain ⟨g4, -, g5⟩ := hA.nodeCell hi
        have g6 := (hA.hrdr i hi).cell hkn
        have g7 := (hA.nodr i hi).frozen 0
        obtain ⟨c, hcc⟩ : ∃ c, s.K i k = c := ⟨_, rfl⟩
        obtain ⟨d, hd⟩ : ∃ d, s.h i k = d := ⟨_, rfl⟩
        obtain ⟨u, hu⟩ : ∃ u, leastL (s.K i) (s.h i) L j = u := ⟨_, rfl⟩
        have e1 : upd s.f i (leastL (s.K i) (s.h i) L j) i = u := by rw [upd_same, hu]
        have hc0 := hK.nonneg hi hkn
        have hc1 := hK.high i k hi hkn
        obtain ⟨hd0, hd1⟩ := hH i k hi hkn
        have hu1 : u ≤ 16 := by rw [← hu]; exact least_le j
        have HX : Hid (LN (wr.setCell ⟨A.BN i, 0, none⟩ (.int .i64 (min u (c + d)))) lab A n t { s with f := upd s.f i (leastL (s.K i) (s.h i) L (j + 1)) }) := by
          refine LN.as (hA.setFar hi (min u (c + d))) ?_
          show LS.mk (upd (upd s.f i _) i _) s.e s.h s.q s.K s.c = LS.mk (upd s.f i (min (leastL (s.K i) (s.h i) L j) (s.K i (atL L j).toNat + s.h i (atL L j).toNat))) s.e s.h s.q s.K s.c
          rw [show upd (upd s.f i (leastL (s.K i) (s.h i) L j)) i (min u (c + d)) = upd s.f i (min u (c + d)) from by funext z; unfold upd; split <;> rfl, hk, show ((k : Int)).toNat = k by omega, hcc, hd, hu]
        have HY : Hid (AF lab w lab (wr.setCell ⟨A.BN i, 0, none⟩ (.int .i64 (min u (c + d))))) := HFR.out.setCell (hA.ln i hi) (by simp) 0 _
        have HV : Hid (OwnV (wr.setCell ⟨A.BN i, 0, none⟩ (.int .i64 (min u (c + d)))) w1.heap.size (.slice (some ad) L.length cv) L.length (atL L)) := by
          have hlt1 := HLT.out
          exact HVR.out.same fun b hb _ => Below.heap_setCell _ _ _ _ (by show b ≠ A.BN i; omega)
        dsimp only at g4 g6
        rw [hcc] at g3 hc0 hc1
        rw [hd] at g6 hd0 hd1
        rw [e1] at g4
        clear hA hcc hd hu e1 hv1 hvr hk
        go_wp2_with fail
        refine wp_region_quiet_tail 26 (by kernel_rfl) (by kernel_rfl) ?_
        simp only [List.take_succ_cons, List.take_zero, List.drop_succ_cons, List.drop_zero]
        repeat (go_big_quiet_step (fail))
        refine wpQuiet_nil ?_
        go_wp2_with fail
        go_roundw
        case rel => exact ⟨j + 1, by omega, by go_num, HV.out.drewN 1, HX.out.drewN 1, HY.out.trans ⟨(Touch.refl _ _).drew, fun _ _ => rfl⟩⟩
        case measure => simp [intOf]; omega
      · have ej : j = L.length := by omega
        obtain ⟨g4, g5, -⟩ := hA.nodeCell hi
        have g7 := (hA.nodr i hi).frozen 1
        obtain ⟨u, hu⟩ : ∃ u, leastL (s.K i) (s.h i) L j = u := ⟨_, rfl⟩
        obtain ⟨e, he⟩ : ∃ e, s.e i = e := ⟨_, rfl⟩
        have e1 : upd s.f i (leastL (s.K i) (s.h i) L j) i = u := by rw [upd_same, hu]
        dsimp only at g4 g5
        rw [e1] at g4
        rw [he] at g5
        have HX : Hid (LN (wr.setCell ⟨A.BN i, 1, none⟩ (.int .i64 (min e u))) lab A n t (s.anew n t i)) := by
          refine LN.as (hA.setLeast hi (min e u)) ?_
          have hnf : s.newF n t i = u := by
            unfold LS.newF
            rw [HLE.out, ← ej, hu]
          unfold LS.anew
          rw [if_neg HIT.out, hnf, he]
          show LS.mk (upd s.f i (leastL (s.K i) (s.h i) L j)) _ _ _ _ _ = _
          rw [hu]
        have HY : Hid (AF lab w lab (wr.setCell ⟨A.BN i, 1, none⟩ (.int .i64 (min e u)))) := HFR.out.setCell (hA.ln i hi) (by simp) 1 _
        have d1 : decide (j < L.length) = false := decide_eq_false hlt
        have d2 : decide ((j : Int) < L.length) = false := decide_eq_false (by omega)
        clear hA hu he e1 ej
        go_wp2_with fail
        refine wp_region_quiet_tail 12 (by kernel_rfl) (by kernel_rfl) ?_
        simp only [List.take_succ_cons, List.take_zero, List.drop_succ_cons, List.drop_zero]
        repeat (go_big_quiet_step (fail))
        refine wpQuiet_nil ?_
        go_wp2_with fail
        go_end0
        exact ⟨rfl, HX.out.drewN 1, HY.out.trans ⟨(Touch.refl _ _).drew, fun _ _ => rfl⟩⟩

end Go.Proofs.YtminfghiejgieaaDoor

/- A link of the net costs something else. -/
namespace Go.Proofs.YtminfghiejgieaaDoor
open Go.RowKit
set_option linter.unusedVariables false

attribute [local go_sem high] run_min_pair run_max_pair

/-- What the exchange of a link's cost reads. -/
def CostL (A : LAd) (n x y : Nat) (w : World) : Prop :=
  w.cell? ⟨A.p, 1, none⟩ = some (.slice (some ⟨A.gC, 0, none⟩) n A.cC) ∧ w.cell? ⟨A.gC, x, none⟩ = some (.slice (some ⟨A.BC x, 0, none⟩) n (A.CC x)) ∧ w.cell? ⟨A.gC, y, none⟩ = some (.slice (some ⟨A.BC y, 0, none⟩) n (A.CC y))

set_option maxRecDepth 100000 in
set_option maxHeartbeats 1000000 in
theorem lfiCost (lab : Nat → List Nat) (A : LAd) (n t : Nat) (s : LS) (a b c : Int) (w : World) (h : LN w lab A n t s) (h8 : n ≤ 8) (hI : LInv n t s) :
    Calls Tryd.prog 27 #[.pointer (some ⟨A.p, 0, none⟩), .int .i64 a, .int .i64 b, .int .i64 c] w fun e w' => e = .returned (errV (s.costE n a b c)) ∧ LN w' lab A n t (s.cost n t a b c) ∧ AF lab w lab w' := by
  have h8' : (n : Int) ≤ 8 := by omega
  have HA := Lib.hid h
  by_cases h0 : nearE n s.K a b = 0
  · have HC := Lib.hid (lfiNear_ok (w := w) h h8 h0)
    by_cases hc : c < 1 ∨ 15 < c
    · have es : s.costE n a b c = 1 := if_pos ⟨h0, hc⟩
      have en : s.cost n t a b c = s := by
        unfold LS.cost
        rw [es, if_neg (by omega)]
      rw [es, en]
      clear h hI es en h0
      rcases (show c < 1 ∨ (1 ≤ c ∧ 15 < c) by omega) with h1 | ⟨h1, h2⟩
      · have d1 : decide (c < 1) = true := decide_eq_true h1
        clear hc
        go_enter Tryd.func27, Tryd.ntmps27
        go_wp2_with fail
        refine HC.out.mono ?_
        rintro e w1 ⟨rfl, h1⟩
        subst w1
        go_wp2_with fail
        go_ret
        exact ⟨rfl, HA.out, AF.refl _ _⟩
      · have d1 : decide (c < 1) = false := decide_eq_false (by omega)
        have d2 : decide (15 < c) = true := decide_eq_true h2
        clear hc
        go_enter Tryd.func27, Tryd.ntmps27
        go_wp2_with fail
        refine HC.out.mono ?_
        rintro e w1 ⟨rfl, h1⟩
        subst w1
        go_wp2_with fail
        go_ret
        exact ⟨rfl, HA.out, AF.refl _ _⟩
    · have es : s.costE n a b c = 0 := by
        unfold LS.costE
        rw [if_neg fun h => hc h.2, h0]
      obtain ⟨x, y, rfl, rfl, hx, hy, hne, hk⟩ := near_zero h0
      have e1 : ((x : Int)).toNat = x := by omega
      have e2 : ((y : Int)).toNat = y := by omega
      have e3 : (min (x : Int) y).toNat = min x y := by omega
      have e4 : (max (x : Int) y).toNat = max x y := by omega
      have en : s.cost n t x y c = ((s.dear x y c).anew n t (min x y)).anew n t (max x y) := by
        unfold LS.cost
        rw [es, if_pos rfl, e1, e2, e3, e4]
      rw [es, en]
      have hx' : (x : Int) < n := by omega
      have hy' : (y : Int) < n := by omega
      have d1 : decide (c < 1) = false := decide_eq_false (by omega)
      have d2 : decide (15 < c) = false := decide_eq_false (by omega)
      obtain ⟨-, f1, -, -⟩ := h.netCell
      have g1 := h.cst.cell hx
      have g2 := h.cst.cell hy
      have hx0 := (h.cstr x hx).cell hy
      have hx1 := (h.cstr y hy).cell hx
      have hz0 := (h.cstr x hx).frozen y
      have hz1 := (h.cstr y hy).frozen x
      have hB1 : A.p ≠ A.BC x := lab_ne h.lp (h.lc x hx) (by simp)
      have hB2 : A.p ≠ A.BC y := lab_ne h.lp (h.lc y hy) (by simp)
      have hB3 : A.gC ≠ A.BC x := lab_ne h.lC (h.lc x hx) (by simp)
      have hB4 : A.gC ≠ A.BC y := lab_ne h.lC (h.lc y hy) (by simp)
      have hB5 : A.BC x ≠ A.BC y := lab_ne (h.lc x hx) (h.lc y hy) (by simpa using hne)
      have hB6 : A.BC y ≠ A.BC x := hB5.symm
      have HN : Hid (LN ((w.setCell ⟨A.BC x, y, none⟩ (.int .i64 c)).setCell ⟨A.BC y, x, none⟩ (.int .i64 c)) lab A n t (s.dear x y c)) := (h.setCost hx y c).setCost hy x c
      have HF : Hid (AF lab w lab ((w.setCell ⟨A.BC x, y, none⟩ (.int .i64 c)).setCell ⟨A.BC y, x, none⟩ (.int .i64 c))) := ((AF.refl lab w).setCell (h.lc x hx) (by simp) y _).setCell (h.lc y hy) (by simp) x _
      have hI1 : LInv n t (s.dear x y c) := hI.dear hne (by omega) (by omega)
      have HI1 := Lib.hid hI1
      have hmn : min x y < n := by omega
      have hmx : max x y < n := by omega
      have HI2 : Hid (LInv n t ((s.dear x y c).anew n t (min x y))) := hI1.anew hmn
      have HS0 : Hid (CostL A n x y w) := ⟨f1, g1, g2⟩
      have HS1 : Hid (CostL A n x y (w.setCell ⟨A.BC x, y, none⟩ (.int .i64 c)).drew) := ⟨(cell_far hB1).trans f1, (cell_far hB3).trans g1, (cell_far hB3).trans g2⟩
      have HS2 : Hid (CostL A n x y ((w.setCell ⟨A.BC x, y, none⟩ (.int .i64 c)).setCell ⟨A.BC y, x, none⟩ (.int .i64 c)).drew) := ⟨(cell_far hB2).trans ((cell_far hB1).trans f1), (cell_far hB4).trans ((cell_far hB3).trans g1), (cell_far hB4).trans ((cell_far hB3).trans g2)⟩
      have HMM : Hid (min x y < n ∧ max x y < n) := ⟨hmn, hmx⟩
      clear h hI hI1 es en h0 e1 e2 e3 e4 hc hk hne hB1 hB2 hB3 hB4 hmn hmx
      go_enter Tryd.func27, Tryd.ntmps27
      go_wp2_with fail
      refine HC.out.mono ?_
      rintro e w1 ⟨rfl, h1⟩
      subst w1
      go_wp2_with fail
      go_region_held3 (fun w' => w'.cell? ⟨A.p, 1, none⟩ = some (.slice (some ⟨A.gC, 0, none⟩) n A.cC) ∧ w'.cell? ⟨A.gC, x, none⟩ = some (.slice (some ⟨A.BC x, 0, none⟩) n (A.CC x)) ∧ w'.cell? ⟨A.gC, y, none⟩ = some (.slice (some ⟨A.BC y, 0, none⟩) n (A.CC y))) (first | exact HS1.out | exact HS2.out | go_keep) (fail)
      go_wp2_with fail
      have HN1 := Lib.hid (HN.out.drewN 1)
      have HF1 : Hid (AF lab w lab (((w.setCell ⟨A.BC x, y, none⟩ (.int .i64 c)).setCell ⟨A.BC y, x, none⟩ (.int .i64 c)).drewN 1)) := HF.out.trans ⟨(Touch.refl _ _).drew, fun _ _ => rfl⟩
      refine (lfiAnew lab A n t (s.dear x y c) (min x y) _ (by omega) _ HN1.out h8 HMM.out.1 HI1.out.cost (fun r k hr hk => HI1.out.hrd0 hr hk)).mono ?_
      rintro e w2 ⟨rfl, hn2, hf2⟩
      have HN2 := Lib.hid hn2
      have HF2 := Lib.hid (HF1.out.trans hf2)
      clear hn2 hf2 HN1 HF1 HN HF HS0 HS1 HS2 f1 g1 g2 hx0 hx1 hz0 hz1
      go_wp2_with fail
      refine (lfiAnew lab A n t ((s.dear x y c).anew n t (min x y)) (max x y) _ (by omega) _ HN2.out h8 HMM.out.2 HI2.out.cost (fun r k hr hk => HI2.out.hrd0 hr hk)).mono ?_
      rintro e w3 ⟨rfl, hn3, hf3⟩
      have HN3 := Lib.hid hn3
      have HF3 := Lib.hid (HF2.out.trans hf3)
      clear hn3 hf3 HN2 HF2
      go_wp2_with fail
      go_ret
      exact ⟨rfl, HN3.out, HF3.out⟩
  · obtain ⟨k, hk, hk0⟩ : ∃ k, nearE n s.K a b = k ∧ k ≠ 0 := ⟨_, rfl, h0⟩
    have es : s.costE n a b c = k := by
      unfold LS.costE
      rw [if_neg (fun h => h0 h.1), hk]
    have en : s.cost n t a b c = s := by
      unfold LS.cost
      rw [es, if_neg hk0]
    have HC := Lib.hid (lfiNear_bad (w := w) h h8 hk hk0)
    have hev : errV k = errNo k := if_neg hk0
    rw [es, en, hev]
    clear h hI h0 hk es en hk0 hev
    go_enter Tryd.func27, Tryd.ntmps27
    go_wp2_with fail
    refine HC.out.mono ?_
    rintro e w1 ⟨rfl, h1⟩
    subst w1
    go_wp2_with fail
    go_ret
    exact ⟨rfl, HA.out, AF.refl _ _⟩

end Go.Proofs.YtminfghiejgieaaDoor

/- What waits on a way: one more is appended; what is first is cut off. -/
namespace Go.Proofs.YtminfghiejgieaaDoor
open Go.RowKit
set_option linter.unusedVariables false

theorem news_src {w : World} {ad : Addr} {z : Int} (hz : w.cell? ad = some (.int .i64 z)) : Src Tryd.prog 1 24 (.slice (some ad) 1 1) 1 [.int .i64 z] w :=
  Src.ofSlice w Tryd.underlying24 ad 1 1 _ rfl (fun j u hu => by
    cases j with
    | zero =>
      show w.cell? ad = some u
      simpa [hz] using hu
    | succ j => simp at hu) (by simp [Value.oneCell'])

section
variable {w : World} {lab : Nat → List Nat} {a b : Nat} {l : List Int} {Aq : Option Addr} {L cq : Nat} {z : Int} {ad : Addr}

/-- One more. -/
theorem append_que (hq : QueL w lab a b (.slice Aq L cq) l) (hL : l.length = L) (hl : ∀ g, lab g = [8, a, b] → g < w.heap.size) (hz : w.cell? ad = some (.int .i64 z)) (h20 : L ≤ 1000) :
    ∃ g o cap w', (Builtin.append_ #[24, 24] 24 #[.slice Aq L cq, .slice (some ad) 1 1]).run Tryd.prog w = .ok (.slice (some ⟨g, o, none⟩) (L + 1) cap) w' ∧
      (∀ lab', lab' g = [8, a, b] → QueL w' lab' a b (.slice (some ⟨g, o, none⟩) (L + 1) cap) (l ++ [z])) ∧ Touch (fun k => lab k = [8, a, b]) w w' ∧ (lab g = [8, a, b] ∨ w.heap.size ≤ g) ∧ g < w'.heap.size := by
  obtain ⟨i0, hi0, hz0, hz1, hz2⟩ := info_parts infoIntV
  have hlen : (l ++ [z]).length = L + 1 := by simp [hL]
  have hnew : ∀ (w1 : World) (olds : List Value), olds = l.map (fun v => Value.int .i64 v) → (Builtin.firstCells i0.size L (.slice Aq L cq)).run Tryd.prog w.drew = .ok olds.toArray w.drew → cq < L + 1 →
      ∃ g o cap w', (Builtin.append_ #[24, 24] 24 #[.slice Aq L cq, .slice (some ad) 1 1]).run Tryd.prog w = .ok (.slice (some ⟨g, o, none⟩) (L + 1) cap) w' ∧
      (∀ lab', lab' g = [8, a, b] → QueL w' lab' a b (.slice (some ⟨g, o, none⟩) (L + 1) cap) (l ++ [z])) ∧ Touch (fun k => lab k = [8, a, b]) w w' ∧ (lab g = [8, a, b] ∨ w.heap.size ≤ g) ∧ g < w'.heap.size := by
    intro w1 olds ho hold hroom
    have hrun := run_append_grow_src (P := Tryd.prog) w 24 24 24 3 i0 (.int .i64 0) Tryd.underlying24 hi0 hz0 Aq L cq olds hold (.slice (some ad) 1 1) 1 [.int .i64 z] (by rw [hz1]; exact news_src hz) hroom (by omega) (growslice_fits hroom (by rw [hz2]; omega))
    have hge := grownCap_ge w (L + 1) cq 3
    refine ⟨_, _, _, _, hrun, fun lab' hlab => .inr ⟨w.heap.size, 0, _, by rw [hlen], hlab, by rw [hlen]; exact hge, fun j hj => ?_, fun j hj => ?_⟩, ⟨rfl, rfl, rfl, by show w.heap.size ≤ (w.heap.push _).size; simp, fun k hk _ => Below.heap_alloc w.drew _ k hk⟩, .inr (Nat.le_refl _), by show w.heap.size < (w.heap.push _).size; simp⟩
    · rw [Nat.zero_add]
      refine (World.cell?_alloc_new w.drew _ _ j).trans ?_
      rw [hlen] at hj
      rw [Array.getElem?_append_left (by simp [ho, hL]; omega), List.getElem?_toArray, ho]
      by_cases e : j < L
      · rw [List.getElem?_append_left (by simp [hL]; exact e), List.getElem?_map, List.getD_eq_getElem?_getD, List.getElem?_append_left (by omega), List.getElem?_eq_getElem (by omega)]
        rfl
      · have : j = l.length := by omega
        subst this
        simp
    · rw [Nat.zero_add]
      refine ⟨?_, World.frozen?_alloc_new w.drew _ _ j⟩
      rw [show (w.drew.alloc (.cells ((olds ++ [Value.int .i64 z]).toArray ++ Builtin.zeroCells (Value.int .i64 0).cells (grownCap w (L + 1) cq 3 - (L + 1))) 3)).cell? ⟨w.heap.size, j, none⟩ = _ from World.cell?_alloc_new w.drew _ _ j]
      rw [Array.getElem?_eq_getElem (by
        have hzc : ∀ n, (Builtin.zeroCells (Value.int .i64 0).cells n).size = n := fun n => by simp [Builtin.zeroCells, Value.cells]
        rw [Array.size_append, hzc]
        simp [ho, hL]
        omega)]
      rfl
  rcases hq with ⟨rfl, hv⟩ | ⟨g, o, cap, hv, hlg, hle, hc, hs⟩
  · obtain ⟨rfl, rfl, rfl⟩ : Aq = none ∧ L = 0 ∧ cq = 0 := by simpa using hv
    exact hnew w [] rfl (by rw [hz1]; exact (Src.ofNil (P := Tryd.prog) (size := 1) w Tryd.underlying24 0).cellsD) (by omega)
  · obtain ⟨rfl, -, rfl⟩ : Aq = some ⟨g, o, none⟩ ∧ L = l.length ∧ cq = cap := by simpa using hv
    by_cases hroom : L + 1 ≤ cq
    · have hcl := hs L (by omega)
      have hrun := run_append_room_src (P := Tryd.prog) w 24 24 24 3 i0 Tryd.underlying24 hi0 g o L cq (.slice (some ad) 1 1) 1 [.int .i64 z] (by rw [hz1]; exact news_src hz) hroom (fun j hj => by
        have : j = 0 := by simpa using hj
        subst this
        rw [hz1, Nat.mul_one]
        exact hcl.1) (fun j hj => by
        have : j = 0 := by simpa using hj
        subst this
        rw [hz1, Nat.mul_one]
        exact hcl.2)
      rw [hz1, Nat.mul_one] at hrun
      have hcell : ∀ j, (w.setCell ⟨g, o + L, none⟩ (.int .i64 z)).cell? ⟨g, o + j, none⟩ = if j = L then some (.int .i64 z) else w.cell? ⟨g, o + j, none⟩ := fun j => by
        by_cases e : j = L
        · subst e
          rw [if_pos rfl]
          exact World.cell?_setCell_same' _ _ _ hcl.1
        · rw [if_neg e]
          exact World.cell?_setCell_other _ _ _ _ (fun e' => e (by have : o + L = o + j := congrArg Addr.off e'; omega))
      refine ⟨g, o, cq, _, hrun, fun lab' hlab => .inr ⟨g, o, cq, by rw [hlen], hlab, by omega, fun j hj => ?_, fun j hj => ?_⟩, Touch.setCell (Touch.refl _ _) (.inl hlg) _, .inl hlg, by
        show g < (w.setCell _ _).heap.size
        rw [size_setCell]; exact hl g hlg⟩
      · show (w.setCell ⟨g, o + L, none⟩ (.int .i64 z)).cell? ⟨g, o + j, none⟩ = _
        rw [hcell]
        rw [hlen] at hj
        by_cases e : j = L
        · rw [if_pos e, e, ← hL]; simp
        · rw [if_neg e, hc j (by omega), List.getD_eq_getElem?_getD, List.getD_eq_getElem?_getD, List.getElem?_append_left (by omega)]
      · show ((w.setCell ⟨g, o + L, none⟩ (.int .i64 z)).cell? ⟨g, o + j, none⟩).isSome = true ∧ (w.setCell ⟨g, o + L, none⟩ (.int .i64 z)).frozen? ⟨g, o + j, none⟩ = false
        rw [hcell, World.frozen?_setCell]
        refine ⟨?_, (hs j hj).2⟩
        by_cases e : j = L
        · rw [if_pos e]; rfl
        · rw [if_neg e]; exact (hs j hj).1
    · refine hnew w _ rfl ?_ (by omega)
      rw [hz1]
      refine (Src.ofSlice (P := Tryd.prog) (size := 1) w Tryd.underlying24 ⟨g, o, none⟩ L cq (l.map fun v => Value.int .i64 v) (by simp [hL]) (fun j u hu => ?_) (by simp [Value.oneCell'])).cellsD
      rw [List.getElem?_map] at hu
      have hj : j < l.length := by
        rcases Nat.lt_or_ge j l.length with h | h
        · exact h
        · rw [List.getElem?_eq_none h] at hu; cases hu
      rw [Addr.add_lit]
      refine (hc j hj).trans ?_
      rw [List.getD_eq_getElem?_getD, List.getElem?_eq_getElem hj]
      rw [List.getElem?_eq_getElem hj] at hu
      simpa using hu

/-- The same at a step of a region that draws its order. -/
theorem step_append_que {ops : Array Oper} {oo : Oper} {ac : Act} {K : Act → World → Prop} {Q : Exit → Act → World → Prop} {E : Prop} (hgd : oo.guard = none) (s x : Operand)
    (ho : oo.op = .call { callee := .builtin .append, args := #[s, x], argTypes := #[24, 24] }) (hty : oo.type = 24)
    (hs : ac.eval s = .slice Aq L cq) (hx : ac.eval x = .slice (some ad) 1 1)
    (hq : QueL w lab a b (.slice Aq L cq) l) (hL : l.length = L) (hl : ∀ g, lab g = [8, a, b] → g < w.heap.size) (hz : w.cell? ad = some (.int .i64 z)) (h20 : L ≤ 1000)
    (h : ∀ g o cap w', (∀ lab', lab' g = [8, a, b] → QueL w' lab' a b (.slice (some ⟨g, o, none⟩) (L + 1) cap) (l ++ [z])) → Touch (fun k => lab k = [8, a, b]) w w' → (lab g = [8, a, b] ∨ w.heap.size ≤ g) → g < w'.heap.size → K (ac.put oo.dst (.slice (some ⟨g, o, none⟩) (L + 1) cap)) w') :
    if Region.wanted oo (yielded ops ac.tmps) = true then Oper.wp Tryd.prog oo ac w K Q else E := by
  have hw : Region.wanted oo (yielded ops ac.tmps) = true := by simp [Region.wanted, hgd]
  rw [if_pos hw]
  obtain ⟨g, o, cap, w', hr, h1, h2, h3, h4⟩ := append_que hq hL hl hz h20
  unfold Oper.wp execOp
  simp only [ho, hty, resolve, invoke, builtin, Sem.run_bind, Sem.run_pure, Result.andThen_ok, List.map_toArray, List.map_cons, List.map_nil, hs, hx, hr]
  exact h g o cap w' h1 h2 h3 h4

/-- What is first is cut off. -/
theorem QueL.tail {g o L cap : Nat} {d : Int} {l : List Int} (hq : QueL w lab a b (.slice (some ⟨g, o, none⟩) (L + 1) cap) (d :: l)) (hL : l.length = L) :
    w.cell? ⟨g, o, none⟩ = some (.int .i64 d) ∧ 1 ≤ cap ∧ L + 1 ≤ cap ∧ QueL w lab a b (.slice (some ⟨g, o + 1, none⟩) L (cap - 1)) l ∧ (cap = 1 → QueL w lab a b (.slice (some ⟨g, o, none⟩) L (cap - 1)) l) := by
  rcases hq with ⟨h, _⟩ | ⟨g', o', cap', hv, hlg, hle, hc, hs⟩
  · cases h
  · obtain ⟨⟨rfl, rfl⟩, -, rfl⟩ : (g = g' ∧ o = o') ∧ L + 1 = (d :: l).length ∧ cap = cap' := by simpa using hv
    have hle' : L + 1 ≤ cap := by simpa [hL] using hle
    refine ⟨by simpa using hc 0 (by simp), by omega, hle', .inr ⟨g, o + 1, cap - 1, by rw [hL], hlg, by omega, fun j hj => ?_, fun j hj => ?_⟩, fun e => .inr ⟨g, o, cap - 1, by rw [hL], hlg, by omega, fun j hj => by omega, fun j hj => by omega⟩⟩
    · have := hc (j + 1) (by simp; omega)
      rw [show o + 1 + j = o + (j + 1) by omega, this]
      simp
    · have := hs (j + 1) (by omega)
      rw [show o + 1 + j = o + (j + 1) by omega]
      exact this
end

end Go.Proofs.YtminfghiejgieaaDoor

/- The net's Send. -/
namespace Go.Proofs.YtminfghiejgieaaDoor
open Go.RowKit
set_option linter.unusedVariables false

/-- What the sending region reads. -/
def SendL (A : LAd) (n x y B : Nat) (z : Int) (w' : World) : Prop :=
  w'.cell? ⟨A.p, 3, none⟩ = some (.map (some A.gW)) ∧ w'.cell? ⟨B, 0, none⟩ = some (.int .i64 x) ∧ w'.cell? ⟨B, 1, none⟩ = some (.int .i64 y) ∧ w'.cell? ⟨A.p, 2, none⟩ = some (.slice (some ⟨A.gN, 0, none⟩) n A.cN) ∧ w'.cell? ⟨A.gN, x, none⟩ = some (.pointer (some ⟨A.BN x, 0, none⟩)) ∧ w'.cell? ⟨A.BN x, 0, none⟩ = some (.int .i64 z)

set_option maxRecDepth 100000 in
set_option maxHeartbeats 2000000 in
theorem lfiSend (lab : Nat → List Nat) (A : LAd) (n t : Nat) (s : LS) (a b : Int) (w : World) (h : LN w lab A n t s) (h8 : n ≤ 8) (hcm : s.c < maxLen) :
    Calls Tryd.prog 24 #[.pointer (some ⟨A.p, 0, none⟩), .int .i64 a, .int .i64 b] w fun e w' => e = .returned (errV (s.sendE n a b)) ∧ ∃ lab' A', A'.p = A.p ∧ LN w' lab' A' n t (s.send n a b) ∧ AF lab w lab' w' := by
  have h8' : (n : Int) ≤ 8 := by omega
  by_cases h0 : nearE n s.K a b = 0
  · have HC := Lib.hid (lfiNear_ok (w := w) h h8 h0)
    obtain ⟨x, y, rfl, rfl, hx, hy, hne, hk⟩ := near_zero h0
    have e1 : ((x : Int)).toNat = x := by omega
    have e2 : ((y : Int)).toNat = y := by omega
    have hx' : (x : Int) < n := by omega
    have hy' : (y : Int) < n := by omega
    obtain ⟨-, -, f2, f3⟩ := h.netCell
    have r1 := h.nod.cell hx
    obtain ⟨r2, -, -⟩ := h.nodeCell hx
    have hq := h.que x y hx hy
    obtain ⟨Aq, cq, hv⟩ := hq.len
    have hW1 : WayM (w.alloc (.cells #[.int .i64 x, .int .i64 y] 90)) A.gW n s.c A.QV := h.way.of_block (Below.heap_alloc w _ _ h.way.lt)
    have hb0 : Below w.heap.size w (w.alloc (.cells #[.int .i64 x, .int .i64 y] 90)) := (Below.refl _ _).alloc (Nat.le_refl _) _
    have f3' := (hb0.cell h.blk.lt (p := ⟨A.p, 3, none⟩)).trans f3
    have f2' := (hb0.cell h.blk.lt (p := ⟨A.p, 2, none⟩)).trans f2
    have r1' := (hb0.cell h.nod.lt (p := ⟨A.gN, x, none⟩)).trans r1
    have r2' := (hb0.cell (h.nodr x hx).lt (p := ⟨A.BN x, 0, none⟩)).trans r2
    have hlk : ∀ k, (Instr.lookup 83 (.map (some A.gW)) (pairV x y) false).run Tryd.prog ((w.alloc (.cells #[.int .i64 x, .int .i64 y] 90)).drewN k) = .ok (A.QV x y) ((w.alloc (.cells #[.int .i64 x, .int .i64 y] 90)).drewN k) := fun k => (hW1.of_block (w' := (w.alloc (.cells #[.int .i64 x, .int .i64 y] 90)).drewN k) rfl).look h8 hx hy
    rw [hv] at hlk
    by_cases hf : 20 ≤ (s.q x y).length
    · have es : s.sendE n x y = 4 := by
        unfold LS.sendE
        rw [e1, e2, if_pos ⟨h0, hf⟩]
      have en : s.send n x y = s := by
        unfold LS.send
        rw [es, if_neg (by omega)]
      rw [es, en]
      obtain ⟨L, hL⟩ : ∃ L, (s.q x y).length = L := ⟨_, rfl⟩
      rw [hL] at hlk hf
      have hf' : (20 : Int) ≤ L := by omega
      have HA := Lib.hid h
      clear h hq hv hL es en h0 e1 e2 hW1
      go_enter Tryd.func24, Tryd.ntmps24
      go_wp2_with fail
      refine HC.out.mono ?_
      rintro e w1 ⟨rfl, h1⟩
      subst w1
      clear HC
      go_wp2_with fail
      go_quiet (fail)
      go_wp2_with fail
      go_ret
      exact ⟨rfl, lab, A, rfl, (HA.out.below ((Below.refl _ _).alloc (Nat.le_refl _) _)).drewN _, AF.of_below (below_drewN ((Below.refl _ _).alloc (Nat.le_refl _) _) _)⟩
    · have es : s.sendE n x y = 0 := by
        unfold LS.sendE
        rw [e1, e2, if_neg (fun h => hf h.2)]
        exact h0
      have en : s.send n x y = s.put x y := by
        unfold LS.send
        rw [es, if_pos rfl, e1, e2]
      rw [es, en]
      obtain ⟨l, hl⟩ : ∃ l, s.q x y = l := ⟨_, rfl⟩
      obtain ⟨z, hz⟩ : ∃ z, s.f x = z := ⟨_, rfl⟩
      have HP : Hid (s.put x y = s.way x y (l ++ [z])) := by
        show s.put x y = _
        unfold LS.put
        rw [hl, hz]
      rw [hl] at hf hq hv hlk
      rw [hz] at r2'
      have HQ : Hid (s.q x y = l) := hl
      have HV := Lib.hid hv
      obtain ⟨L, hL⟩ : ∃ L, l.length = L := ⟨_, rfl⟩
      rw [hL] at hlk hf
      have HLL := Lib.hid hL
      have hf' : ¬ (20 : Int) ≤ L := by omega
      have hd : decide ((20 : Int) ≤ L) = false := decide_eq_false hf'
      have HAW : Hid (LN (w.alloc (.cells #[.int .i64 x, .int .i64 y] 90)) lab A n t s) := h.below hb0
      have hc0 : (w.alloc (.cells #[.int .i64 x, .int .i64 y] 90)).cell? ⟨w.heap.size, 0, none⟩ = some (.int .i64 x) := (Blk.new w 90 #[.int .i64 x, .int .i64 y]).cell 0
      have hc1 : (w.alloc (.cells #[.int .i64 x, .int .i64 y] 90)).cell? ⟨w.heap.size, 1, none⟩ = some (.int .i64 y) := (Blk.new w 90 #[.int .i64 x, .int .i64 y]).cell 1
      have hBl : w.heap.size < (w.alloc (.cells #[.int .i64 x, .int .i64 y] 90)).heap.size := by simp
      have HLB : Hid (lab w.heap.size = []) := h.free _ (Nat.le_refl _)
      have HAF : Hid (AF lab w lab (w.alloc (.cells #[.int .i64 x, .int .i64 y] 90))) := AF.of_below hb0
      clear h hq hv hL hl hz es en h0 e1 e2 hW1 hb0 f2 f3 r1 r2
      go_enter Tryd.func24, Tryd.ntmps24
      go_wp2_with fail
      refine HC.out.mono ?_
      rintro e w1 ⟨rfl, h1⟩
      subst w1
      clear HC
      go_wp2_with fail
      go_quiet (fail)
      go_wp2_with fail
      have HA5 := Lib.hid (HAW.out.drewN nq)
      have HF5 : Hid (AF lab w lab ((w.alloc (.cells #[.int .i64 x, .int .i64 y] 90)).drewN nq)) := HAF.out.trans ⟨(Touch.refl _ _).drewN _, fun _ _ => rfl⟩
      obtain ⟨B, hB⟩ : ∃ B, w.heap.size = B := ⟨_, rfl⟩
      obtain ⟨w5, hw5⟩ : ∃ w5, (w.alloc (.cells #[.int .i64 x, .int .i64 y] 90)).drewN nq = w5 := ⟨_, rfl⟩
      have g3 : w5.cell? ⟨A.p, 3, none⟩ = some (.map (some A.gW)) := by rw [← hw5]; exact f3'
      have g2 : w5.cell? ⟨A.p, 2, none⟩ = some (.slice (some ⟨A.gN, 0, none⟩) n A.cN) := by rw [← hw5]; exact f2'
      have g1 : w5.cell? ⟨A.gN, x, none⟩ = some (.pointer (some ⟨A.BN x, 0, none⟩)) := by rw [← hw5]; exact r1'
      have g0 : w5.cell? ⟨A.BN x, 0, none⟩ = some (.int .i64 z) := by rw [← hw5]; exact r2'
      have k0 : w5.cell? ⟨B, 0, none⟩ = some (.int .i64 x) := by rw [← hw5, ← hB]; exact hc0
      have k1 : w5.cell? ⟨B, 1, none⟩ = some (.int .i64 y) := by rw [← hw5, ← hB]; exact hc1
      have HBL : Hid (B < w5.heap.size) := by rw [← hw5, ← hB]; exact hBl
      rw [hB] at HLB
      rw [hw5] at HA5 HF5 ⊢
      rw [hB]
      clear hw5 hB f3' f2' r1' r2' hc0 hc1 hBl hlk HAW HAF
      have HS0 : Hid (SendL A n x y B z w5.drew) := ⟨g3, k0, k1, g2, g1, g0⟩
      clear g3 k0 k1 g2 g1 g0
      refine wp_region_tail (SendL A n x y B z) 20 (by kernel_rfl) ?_
      refine wpTail_take (i := 0) (v := ?_) rfl (by kernel_rfl) (by kernel_rfl) (by kernel_rfl) (by kernel_rfl) (fun _ _ _ h => h) HS0.out ?_ rfl ?_
      rotate_left 1
      · intro w0 hS0
        obtain ⟨s1, s2, s3, s4, s5, s6⟩ := hS0
        go_simp
        try with_reducible rfl
      try simp only [Act.put, List.setIfInBounds_toArray]
      refine wpTail_take (i := 1) (v := ?_) rfl (by kernel_rfl) (by kernel_rfl) (by kernel_rfl) (by kernel_rfl) (fun _ _ _ h => h) HS0.out ?_ rfl ?_
      rotate_left 1
      · intro w0 hS0
        obtain ⟨s1, s2, s3, s4, s5, s6⟩ := hS0
        go_simp
        try with_reducible rfl
      try simp only [Act.put]
      refine wpTail_take (i := 2) (v := ?_) rfl (by kernel_rfl) (by kernel_rfl) (by kernel_rfl) (by kernel_rfl) (fun _ _ _ h => h) HS0.out ?_ rfl ?_
      rotate_left 1
      · intro w0 hS0
        obtain ⟨s1, s2, s3, s4, s5, s6⟩ := hS0
        go_simp
        try with_reducible rfl
      try simp only [Act.put]
      refine wpTail_take (i := 3) (v := ?_) rfl (by kernel_rfl) (by kernel_rfl) (by kernel_rfl) (by kernel_rfl) (fun _ _ _ h => h) HS0.out ?_ rfl ?_
      rotate_left 1
      · intro w0 hS0
        obtain ⟨s1, s2, s3, s4, s5, s6⟩ := hS0
        go_simp
        try with_reducible rfl
      try simp only [Act.put]
      refine wpTail_take (i := 4) (v := ?_) rfl (by kernel_rfl) (by kernel_rfl) (by kernel_rfl) (by kernel_rfl) (fun _ _ _ h => h) HS0.out ?_ rfl ?_
      rotate_left 1
      · intro w0 hS0
        obtain ⟨s1, s2, s3, s4, s5, s6⟩ := hS0
        go_simp
        try with_reducible rfl
      try simp only [Act.put]
      refine wpTail_take (i := 5) (v := ?_) rfl (by kernel_rfl) (by kernel_rfl) (by kernel_rfl) (by kernel_rfl) (fun _ _ _ h => h) HS0.out ?_ rfl ?_
      rotate_left 1
      · intro w0 hS0
        obtain ⟨s1, s2, s3, s4, s5, s6⟩ := hS0
        go_simp
        try with_reducible rfl
      try simp only [Act.put]
      refine wpTail_take (i := 6) (v := ?_) rfl (by kernel_rfl) (by kernel_rfl) (by kernel_rfl) (by kernel_rfl) (fun _ _ _ h => h) HS0.out ?_ rfl ?_
      rotate_left 1
      · intro w0 hS0
        obtain ⟨s1, s2, s3, s4, s5, s6⟩ := hS0
        go_simp
        try with_reducible rfl
      try simp only [Act.put]
      refine wpTail_take (i := 7) (v := ?_) rfl (by kernel_rfl) (by kernel_rfl) (by kernel_rfl) (by kernel_rfl) (fun _ _ _ h => h) HS0.out ?_ rfl ?_
      rotate_left 1
      · intro w0 hS0
        obtain ⟨s1, s2, s3, s4, s5, s6⟩ := hS0
        go_simp
        try with_reducible rfl
      try simp only [Act.put]
      refine wpTail_take (i := 8) (v := ?_) rfl (by kernel_rfl) (by kernel_rfl) (by kernel_rfl) (by kernel_rfl) (fun _ _ _ h => h) HS0.out ?_ rfl ?_
      rotate_left 1
      · intro w0 hS0
        obtain ⟨s1, s2, s3, s4, s5, s6⟩ := hS0
        go_simp
        try with_reducible rfl
      try simp only [Act.put]
      refine wpTail_take (i := 9) (v := ?_) rfl (by kernel_rfl) (by kernel_rfl) (by kernel_rfl) (by kernel_rfl) (fun _ _ _ h => h) HS0.out ?_ rfl ?_
      rotate_left 1
      · intro w0 hS0
        obtain ⟨s1, s2, s3, s4, s5, s6⟩ := hS0
        go_simp
        try with_reducible rfl
      try simp only [Act.put]
      refine wpTail_take (i := 10) (v := ?_) rfl (by kernel_rfl) (by kernel_rfl) (by kernel_rfl) (by kernel_rfl) (fun _ _ _ h => h) HS0.out ?_ rfl ?_
      rotate_left 1
      · intro w0 hS0
        obtain ⟨s1, s2, s3, s4, s5, s6⟩ := hS0
        go_simp
        try with_reducible rfl
      try simp only [Act.put]
      refine wpTail_take (i := 11) (v := ?_) rfl (by kernel_rfl) (by kernel_rfl) (by kernel_rfl) (by kernel_rfl) (fun _ _ _ h => h) HS0.out ?_ rfl ?_
      rotate_left 1
      · intro w0 hS0
        obtain ⟨s1, s2, s3, s4, s5, s6⟩ := hS0
        go_simp
        try with_reducible rfl
      try simp only [Act.put]
      refine wpTail_take (i := 12) (v := ?_) rfl (by kernel_rfl) (by kernel_rfl) (by kernel_rfl) (by kernel_rfl) (fun _ _ _ h => h) HS0.out ?_ rfl ?_
      rotate_left 1
      · intro w0 hS0
        obtain ⟨s1, s2, s3, s4, s5, s6⟩ := hS0
        go_simp
        try with_reducible rfl
      try simp only [Act.put]
      refine wpTail_take (i := 13) (v := ?_) rfl (by kernel_rfl) (by kernel_rfl) (by kernel_rfl) (by kernel_rfl) (fun _ _ _ h => h) HS0.out ?_ rfl ?_
      rotate_left 1
      · intro w0 hS0
        obtain ⟨s1, s2, s3, s4, s5, s6⟩ := hS0
        go_simp
        try with_reducible rfl
      try simp only [Act.put]
      refine wpTail_take (i := 14) (v := ?_) rfl (by kernel_rfl) (by kernel_rfl) (by kernel_rfl) (by kernel_rfl) (fun _ _ _ h => h) HS0.out ?_ rfl ?_
      rotate_left 1
      · intro w0 hS0
        obtain ⟨s1, s2, s3, s4, s5, s6⟩ := hS0
        go_simp
        try with_reducible rfl
      try simp only [Act.put]
      refine wpTail_step (i := 15) rfl (by kernel_rfl) (fun K hK => ?_)
      go_simp
      have hb6 : Below w5.heap.size w5 (w5.alloc (.cells #[.int .i64 z] 3)).drew := ((Below.refl _ _).alloc (Nat.le_refl _) _).drew
      have HB6 := Lib.hid hb6
      have HS1 : Hid (SendL A n x y B z (w5.alloc (.cells #[.int .i64 z] 3)).drew) := by
        have hk : ∀ (p : Addr) (v : Value), w5.cell? p = some v → (w5.alloc (.cells #[.int .i64 z] 3)).drew.cell? p = some v := fun p v hv => (HB6.out.cell (World.block_lt_of_cell? w5 p hv)).trans hv
        exact ⟨hk _ _ HS0.out.1, hk _ _ HS0.out.2.1, hk _ _ HS0.out.2.2.1, hk _ _ HS0.out.2.2.2.1, hk _ _ HS0.out.2.2.2.2.1, hk _ _ HS0.out.2.2.2.2.2⟩
      refine hK.out _ _ HS1.out ?_
      clear hK K hb6
      try simp only [Act.put]
      have hW6 : WayM (w5.alloc (.cells #[.int .i64 z] 3)).drew A.gW n s.c A.QV := HA5.out.way.of_block (HB6.out.block _ HA5.out.way.lt)
      obtain ⟨st, es1, clock1, hme, hst⟩ := hW6.entry h8 hx hy hcm
      rw [HV.out] at hme
      have HST := Lib.hid hst
      obtain ⟨es0, clock0, hmb⟩ := hW6.block
      have HMB := Lib.hid hmb
      clear hst hW6 hmb
      refine wpTail_step (i := 16) rfl (by kernel_rfl) (fun K hK => ?_)
      go_simp
      obtain ⟨w7, hw7⟩ : ∃ w7, Go.ChangeMaps.setBlock (w5.alloc (.cells #[.int .i64 z] 3)).drew A.gW (.map es1 clock1) = w7 := ⟨_, rfl⟩
      have H7b : Hid (∀ b, b < w5.heap.size → b ≠ A.gW → w7.heap[b]? = w5.heap[b]?) := fun b hb hne => by
        rw [← hw7]
        exact (Go.ChangeMaps.heap_setBlock_other HMB.out _ hne).trans (HB6.out.block b hb)
      have H7m : Hid (w7.heap[A.gW]? = some (.map es1 clock1)) := by
        rw [← hw7]
        exact Go.ChangeMaps.heap_setBlock_same HMB.out _
      have H7z : Hid (w7.heap.size = w5.heap.size + 1) := by
        rw [← hw7]
        show ((w5.alloc (.cells #[.int .i64 z] 3)).heap.setIfInBounds A.gW (.map es1 clock1)).size = _
        simp
      have H7n : Hid (w7.cell? ⟨w5.heap.size, 0, none⟩ = some (.int .i64 z)) := by
        have hne : w5.heap.size ≠ A.gW := by have := HA5.out.way.lt; omega
        have hb := Go.ChangeMaps.heap_setBlock_other (w := (w5.alloc (.cells #[.int .i64 z] 3)).drew) HMB.out (.map es1 clock1) hne
        rw [hw7] at hb
        exact (World.cell?_of_block (a := ⟨w5.heap.size, 0, none⟩) hb).trans ((Blk.new w5 3 #[.int .i64 z]).cell 0)
      have H7o : Hid (w7.os = w5.os ∧ w7.tape = w5.tape ∧ w7.output = w5.output) := by
        rw [← hw7]
        exact ⟨rfl, rfl, rfl⟩
      have HBW : Hid (B ≠ A.gW) := fun e => by
        have h1 := HLB.out
        rw [e, HA5.out.lW] at h1
        cases h1
      have HS7 : Hid (SendL A n x y B z w7) := by
        have hk : ∀ (p : Addr) (v : Value), p.block ≠ A.gW → w5.drew.cell? p = some v → w7.cell? p = some v := fun p v hp hv => (World.cell?_of_block (H7b.out _ (World.block_lt_of_cell? w5 p hv) hp)).trans hv
        have q0 := lab_ne HA5.out.lp HA5.out.lW (by simp)
        have q1 := lab_ne HA5.out.lN HA5.out.lW (by simp)
        have q2 := lab_ne (HA5.out.ln x hx) HA5.out.lW (by simp)
        exact ⟨hk _ _ q0 HS0.out.1, hk _ _ HBW.out HS0.out.2.1, hk _ _ HBW.out HS0.out.2.2.1, hk _ _ q0 HS0.out.2.2.2.1, hk _ _ q1 HS0.out.2.2.2.2.1, hk _ _ q2 HS0.out.2.2.2.2.2⟩
      rw [hw7]
      clear hw7
      refine hK.out _ _ HS7.out ?_
      clear hK K hme
      try simp only [Act.put]
      refine wpTail_take (i := 17) (v := ?_) rfl (by kernel_rfl) (by kernel_rfl) (by kernel_rfl) (by kernel_rfl) (fun _ _ _ h => h) HS7.out ?_ rfl ?_
      rotate_left 1
      · intro w0 hS0
        go_simp
        try with_reducible rfl
      try simp only [Act.put]
      refine wpTail_take (i := 19) (v := ?_) rfl (by kernel_rfl) (by kernel_rfl) (by kernel_rfl) (by kernel_rfl) (fun _ _ _ h => h) HS7.out ?_ rfl ?_
      rotate_left 1
      · intro w0 hS0
        go_simp
        try with_reducible rfl
      try simp only [Act.put]
      have HQ7 : Hid (QueL w7 lab x y (.slice Aq L cq) l) := by
        have h1 := HA5.out.que x y hx hy
        rw [HQ.out, HV.out, HLL.out] at h1
        exact h1.same (fun g hg => H7b.out g (HA5.out.lt (by rw [hg]; simp)) (lab_ne hg HA5.out.lW (by simp))) (fun g hg => hg)
      have HL7 : Hid (∀ g, lab g = [8, x, y] → g < w7.heap.size) := fun g hg => by
        have h1 := HA5.out.lt (b := g) (by rw [hg]; simp)
        have h2 := H7z.out
        omega
      refine wpTail_step (i := 18) rfl (by kernel_rfl) (fun K hK => ?_)
      have eL : l.length = L := HLL.out
      refine step_append_que rfl (.tmp 33) (.tmp 44) rfl rfl (by rw [← eL]; rfl) rfl HQ7.out HLL.out HL7.out H7n.out (by omega) ?_
      clear eL
      intro g8 o8 cap8 w8 hQ8 hT8 hg8 hlt8
      have HQ8 := Lib.hid hQ8
      have HT8 := Lib.hid hT8
      have HG8 := Lib.hid hg8
      have HLT8 := Lib.hid hlt8
      have HS8 : Hid (SendL A n x y B z w8) := by
        have hk : ∀ (p : Addr) (v : Value), ¬ (lab p.block = [8, x, y]) → w7.cell? p = some v → w8.cell? p = some v := fun p v hp hv => (World.cell?_of_block (HT8.out.block _ (World.block_lt_of_cell? w7 p hv) hp)).trans hv
        have q0 : ¬ lab A.p = [8, x, y] := by rw [HA5.out.lp]; simp
        have q1 : ¬ lab A.gN = [8, x, y] := by rw [HA5.out.lN]; simp
        have q2 : ¬ lab (A.BN x) = [8, x, y] := by rw [HA5.out.ln x hx]; simp
        have q3 : ¬ lab B = [8, x, y] := by rw [HLB.out]; simp
        exact ⟨hk _ _ q0 HS7.out.1, hk _ _ q3 HS7.out.2.1, hk _ _ q3 HS7.out.2.2.1, hk _ _ q0 HS7.out.2.2.2.1, hk _ _ q1 HS7.out.2.2.2.2.1, hk _ _ q2 HS7.out.2.2.2.2.2⟩
      clear hQ8 hT8 hg8 hlt8
      refine hK.out _ _ HS8.out ?_
      clear hK K
      try simp only [Act.put]
      have hm8 : w8.heap[A.gW]? = some (.map es1 clock1) := (HT8.out.block _ (by have := H7z.out; have := HA5.out.way.lt; omega) (by rw [HA5.out.lW]; simp)).trans H7m.out
      obtain ⟨w9, hrun, hway, hgr⟩ := HST.out w8 (.slice (some ⟨g8, o8, none⟩) (L + 1) cap8) hm8
      rw [show goInt st = Value.int .i64 st from rfl] at hrun
      have HWAY := Lib.hid hway
      have HGR := Lib.hid hgr
      clear hm8 hway hgr
      refine wpTail_last rfl (by kernel_rfl) (by kernel_rfl) (fun K hK => ?_)
      go_simp
      refine hK.out _ _ ?_
      clear hK K hrun
      have HN : Hid (∃ lab' A', A'.p = A.p ∧ LN w9 lab' A' n t (s.put x y) ∧ AF lab w lab' w9) := by
        have hbl : ∀ b, b < w5.heap.size → lab b ≠ [8, x, y] → b ≠ A.gW → w9.heap[b]? = w5.heap[b]? := fun b hb h1 h2 =>
          (HGR.out.block b (Nat.lt_of_lt_of_le (by have := H7z.out; omega) HT8.out.size) (by simpa using h2)).trans ((HT8.out.block b (by have := H7z.out; omega) h1).trans (H7b.out b hb h2))
        have hsz : w5.heap.size ≤ w9.heap.size := by
          have h1 := H7z.out
          have h2 := HT8.out.size
          have h3 := HGR.out.size
          omega
        have hgW : g8 ≠ A.gW := fun e => by
          have h1 := HA5.out.lW
          have h2 := HA5.out.way.lt
          have h3 := H7z.out
          rcases HG8.out with h | h
          · rw [e, h1] at h; simp at h
          · omega
        have hlab : ∀ b, b < w5.heap.size → (fun b => if b = g8 then [8, x, y] else lab b) b = lab b := fun b hb => by
          show (if b = g8 then [8, x, y] else lab b) = lab b
          by_cases e : b = g8
          · subst e
            rw [if_pos rfl]
            rcases HG8.out with h | h
            · exact h.symm
            · have := H7z.out; omega
          · rw [if_neg e]
        have hq9 : QueL w9 (fun b => if b = g8 then [8, x, y] else lab b) x y (.slice (some ⟨g8, o8, none⟩) (L + 1) cap8) (l ++ [z]) := by
          refine (HQ8.out (fun b => if b = g8 then [8, x, y] else lab b) (if_pos rfl)).same (fun g hg => ?_) (fun g hg => hg)
          have h1 : (if g = g8 then [8, x, y] else lab g) = [8, x, y] := hg
          have hne : g ≠ A.gW := by
            by_cases e : g = g8
            · rw [e]; exact hgW
            · rw [if_neg e] at h1
              exact lab_ne h1 HA5.out.lW (by simp)
          have hlt : g < w8.heap.size := by
            by_cases e : g = g8
            · rw [e]; exact HLT8.out
            · rw [if_neg e] at h1
              exact Nat.lt_of_lt_of_le (HL7.out g h1) HT8.out.size
          exact HGR.out.block g hlt (by simpa using hne)
        have hsw := HA5.out.swap (lab' := fun b => if b = g8 then [8, x, y] else lab b) hx hy (fun b hb _ h1 h2 => hbl b hb h1 h2) hsz HWAY.out hlab (fun b hb => by
            show (if b = g8 then [8, x, y] else lab b) = []
            rw [if_neg (by have := HLT8.out; have := HGR.out.size; omega)]
            exact HA5.out.free b (Nat.le_trans hsz hb)) hq9
        refine ⟨_, { A with QV := setV A.QV x y (.slice (some ⟨g8, o8, none⟩) (L + 1) cap8) }, rfl, (by rw [HP.out]; exact hsw), HF5.out.trans ⟨⟨?_, ?_, ?_, hsz, fun b hb hl => hbl b hb (fun e => hl (by rw [e]; simp)) (fun e => hl (by rw [e, HA5.out.lW]; simp))⟩, hlab⟩⟩
        · exact HGR.out.os.trans (HT8.out.os.trans H7o.out.1)
        · exact HGR.out.tape.trans (HT8.out.tape.trans H7o.out.2.1)
        · exact HGR.out.output.trans (HT8.out.output.trans H7o.out.2.2)
      clear HS0 HS1 HS7 HS8 HQ8 HT8 HG8 HLT8 HWAY HGR HST HB6 H7b H7m H7z H7n H7o HQ7 HL7
      go_wp2_with fail
      go_ret
      exact ⟨rfl, HN.out⟩
  · obtain ⟨k, hk, hk0⟩ : ∃ k, nearE n s.K a b = k ∧ k ≠ 0 := ⟨_, rfl, h0⟩
    have es : s.sendE n a b = k := by
      unfold LS.sendE
      rw [if_neg (fun h => h0 h.1), hk]
    have en : s.send n a b = s := by
      unfold LS.send
      rw [es, if_neg hk0]
    have HC := Lib.hid (lfiNear_bad (w := w) h h8 hk hk0)
    have hev : errV k = errNo k := if_neg hk0
    have HA := Lib.hid h
    rw [es, en, hev]
    clear h h0 hk es en hk0 hev
    go_enter Tryd.func24, Tryd.ntmps24
    go_wp2_with fail
    refine HC.out.mono ?_
    rintro e w1 ⟨rfl, h1⟩
    subst w1
    go_wp2_with fail
    go_ret
    exact ⟨rfl, lab, A, rfl, HA.out, AF.refl _ _⟩

end Go.Proofs.YtminfghiejgieaaDoor

/- The net's Take. -/
namespace Go.Proofs.YtminfghiejgieaaDoor
open Go.RowKit
set_option linter.unusedVariables false

/-- A store into the ways, at the operation. -/
theorem wpList_mapUpdate_way {w : World} {ops : Array Oper} {rest : List Oper} {o : Oper} {a : Act} {Q : Exit → Act → World → Prop} {b n c r k : Nat} {V : Nat → Nat → Value}
    (hg : o.guard = none) (m x v : Operand) (hop : o.op = Op.mapUpdate 83 m x v) (hm : a.eval m = .map (some b)) (h : WayM w b n c V) (h8 : n ≤ 8) (hr : r < n) (hk : k < n) (hc : c < maxLen)
    (hx : a.eval x = pairV r k) (val : Value) (hv : a.eval v = val)
    (hK : ∀ w', WayM w' b n (c + 1) (setV V r k val) → w.grownBy w' (some b) → wpList Tryd.prog ops Q rest (a.put o.dst undef) w') : wpList Tryd.prog ops Q (o :: rest) a w := by
  refine wpList_plain hg fun K' hK' => ?_
  obtain ⟨w', hrun, r1, r2⟩ := h.update h8 hr hk hc val
  unfold Oper.wp
  simp [execOp, hop, hm, hx, hv, hrun, Result.andThen]
  exact hK' _ _ (hK w' r1 r2)

set_option maxRecDepth 100000 in
set_option maxHeartbeats 2000000 in
theorem lfiTake (lab : Nat → List Nat) (A : LAd) (n t : Nat) (s : LS) (a b : Int) (w : World) (h : LN w lab A n t s) (h8 : n ≤ 8) (hI : LInv n t s) (hcm : s.c < maxLen) :
    Calls Tryd.prog 25 #[.pointer (some ⟨A.p, 0, none⟩), .int .i64 a, .int .i64 b] w fun e w' => e = .returned (errV (s.takeE n a b)) ∧ ∃ A', A'.p = A.p ∧ LN w' lab A' n t (s.take n t a b) ∧ AF lab w lab w' := by
  have h8' : (n : Int) ≤ 8 := by omega
  by_cases h0 : nearE n s.K a b = 0
  · have HC := Lib.hid (lfiNear_ok (w := w) h h8 h0)
    obtain ⟨x, y, rfl, rfl, hx, hy, hne, hk⟩ := near_zero h0
    have e1 : ((x : Int)).toNat = x := by omega
    have e2 : ((y : Int)).toNat = y := by omega
    have hx' : (x : Int) < n := by omega
    have hy' : (y : Int) < n := by omega
    have hq := h.que x y hx hy
    obtain ⟨Aq, cq, hv⟩ := hq.len
    have hb0 : Below w.heap.size w (w.alloc (.cells #[.int .i64 x, .int .i64 y] 90)) := (Below.refl _ _).alloc (Nat.le_refl _) _
    have HAW : Hid (LN (w.alloc (.cells #[.int .i64 x, .int .i64 y] 90)) lab A n t s) := h.below hb0
    have HAF : Hid (AF lab w lab (w.alloc (.cells #[.int .i64 x, .int .i64 y] 90))) := AF.of_below hb0
    obtain ⟨-, -, -, f3⟩ := HAW.out.netCell
    have hlk : ∀ k, (Instr.lookup 83 (.map (some A.gW)) (pairV x y) false).run Tryd.prog ((w.alloc (.cells #[.int .i64 x, .int .i64 y] 90)).drewN k) = .ok (A.QV x y) ((w.alloc (.cells #[.int .i64 x, .int .i64 y] 90)).drewN k) := fun k => (HAW.out.way.of_block (w' := (w.alloc (.cells #[.int .i64 x, .int .i64 y] 90)).drewN k) rfl).look h8 hx hy
    by_cases hf : (s.q x y).length = 0
    · have es : s.takeE n x y = 2 := by
        unfold LS.takeE
        rw [e1, e2, if_pos ⟨h0, hf⟩]
      have en : s.take n t x y = s := by
        unfold LS.take
        rw [es, if_neg (by omega)]
      rw [es, en]
      rw [hv, hf] at hlk
      clear h hq hv es en h0 e1 e2 hI hf hb0
      go_enter Tryd.func25, Tryd.ntmps25
      go_wp2_with fail
      refine HC.out.mono ?_
      rintro e w1 ⟨rfl, h1⟩
      subst w1
      clear HC
      go_wp2_with fail
      go_quiet (fail)
      go_wp2_with fail
      go_ret
      exact ⟨rfl, A, rfl, HAW.out.drewN _, HAF.out.trans ⟨(Touch.refl _ _).drewN _, fun _ _ => rfl⟩⟩
    · obtain ⟨d, l, hl⟩ : ∃ d l, s.q x y = d :: l := by
        cases hq : s.q x y with
        | nil => rw [hq] at hf; simp at hf
        | cons d l => exact ⟨d, l, rfl⟩
      have es : s.takeE n x y = 0 := by
        unfold LS.takeE
        rw [e1, e2, if_neg (fun h => hf h.2)]
        exact h0
      have en : s.take n t x y = (s.come x y).anew n t y := by
        unfold LS.take
        rw [es, if_pos rfl, e1, e2]
      rw [es, en]
      have HCO : Hid (s.come x y = (s.hear y x d).way x y l) := by
        show s.come x y = _
        unfold LS.come LS.first
        rw [hl]
        rfl
      have hIc : LInv n t (s.come x y) := hI.come hx hy (by omega)
      have HI := Lib.hid hIc
      have h20 := hI.few x y hx hy
      have hd := hI.way0 hx hy (x := d) (by rw [hl]; simp)
      obtain ⟨L, hL⟩ : ∃ L, l.length = L := ⟨_, rfl⟩
      have hLL : (s.q x y).length = L + 1 := by rw [hl]; simp [hL]
      rw [hLL] at hv h20
      rw [hv, hl] at hq
      have hAq : ∃ g o, Aq = some ⟨g, o, none⟩ := by
        rcases hq with ⟨h, _⟩ | ⟨g, o, cap, h, _⟩
        · cases h
        · simp only [Value.slice.injEq] at h
          exact ⟨g, o, h.1⟩
      obtain ⟨g, o, rfl⟩ := hAq
      have hlg : lab g = [8, x, y] := by
        rcases hq with ⟨h, _⟩ | ⟨g', o', cap, h, h2, _⟩
        · cases h
        · obtain ⟨⟨rfl, -⟩, -, -⟩ : (g = g' ∧ o = o') ∧ L + 1 = (d :: l).length ∧ cq = cap := by simpa using h
          exact h2
      obtain ⟨hc1, hcq1, hcq2, hqa, hqb⟩ := QueL.tail hq hL
      rw [hv] at hlk
      have HLG := Lib.hid hlg
      have HV := Lib.hid hv
      have HQA := Lib.hid hqa
      have HQB := Lib.hid hqb
      have hc1' := (hb0.cell (World.block_lt_of_cell? w ⟨g, o, none⟩ hc1) (p := ⟨g, o, none⟩)).trans hc1
      have hc0 : (w.alloc (.cells #[.int .i64 x, .int .i64 y] 90)).cell? ⟨w.heap.size, 0, none⟩ = some (.int .i64 x) := (Blk.new w 90 #[.int .i64 x, .int .i64 y]).cell 0
      have hcy : (w.alloc (.cells #[.int .i64 x, .int .i64 y] 90)).cell? ⟨w.heap.size, 1, none⟩ = some (.int .i64 y) := (Blk.new w 90 #[.int .i64 x, .int .i64 y]).cell 1
      have HB0 := Lib.hid hb0
      have HLB : Hid (lab w.heap.size = []) := h.free _ (Nat.le_refl _)
      have HLT : Hid (∀ b, lab b = [8, x, y] → b < w.heap.size) := fun b hb => h.lt (by rw [hb]; simp)
      have hLi : (0 : Int) ≤ L := by omega
      have b0 : ((L : Int) + 1 == 0) = false := beq_false_of_ne (by omega)
      have b1 : (((L + 1 : Nat) : Int) == 0) = false := beq_false_of_ne (by omega)
      have hLi' : ((0 : Nat) : Int) < ((L + 1 : Nat) : Int) := by omega
      have hcq1' : (1 : Int) ≤ cq := by omega
      clear h hq hv hl hL hLL es en h0 e1 e2 hI hIc hqa hqb hc1 hb0 hf hlg hk
      go_enter Tryd.func25, Tryd.ntmps25
      go_wp2_with fail
      refine HC.out.mono ?_
      rintro e w1 ⟨rfl, h1⟩
      subst w1
      clear HC
      go_wp2_with fail
      go_quiet (fail)
      go_wp2_with fail
      obtain ⟨B, hB⟩ : ∃ B, w.heap.size = B := ⟨_, rfl⟩
      obtain ⟨w5, hw5⟩ : ∃ w5, (w.alloc (.cells #[.int .i64 x, .int .i64 y] 90)).drewN nq = w5 := ⟨_, rfl⟩
      have HB5 : Hid (Below w.heap.size w w5) := by rw [← hw5]; exact below_drewN HB0.out nq
      have HA5 : Hid (LN w5 lab A n t s) := by rw [← hw5]; exact HAW.out.drewN nq
      have HF5 : Hid (AF lab w lab w5) := by rw [← hw5]; exact HAF.out.trans ⟨(Touch.refl _ _).drewN _, fun _ _ => rfl⟩
      obtain ⟨-, -, g2, g3⟩ := HA5.out.netCell
      have g1 := HA5.out.nod.cell hy
      obtain ⟨-, -, g0⟩ := HA5.out.nodeCell hy
      have m0 := (HA5.out.hrdr y hy).cell hx
      have m1 := (HA5.out.hrdr y hy).frozen x
      have k0 : w5.cell? ⟨B, 0, none⟩ = some (.int .i64 x) := by rw [← hw5, ← hB]; exact hc0
      have k1 : w5.cell? ⟨B, 1, none⟩ = some (.int .i64 y) := by rw [← hw5, ← hB]; exact hcy
      have k2 : w5.cell? ⟨g, o, none⟩ = some (.int .i64 d) := by rw [← hw5]; exact hc1'
      have hlk5 : ∀ k, (Instr.lookup 83 (.map (some A.gW)) (pairV x y) false).run Tryd.prog (w5.drewN k) = .ok (.slice (some ⟨g, o, none⟩) (L + 1) cq) (w5.drewN k) := fun k => by
        have h1 := (HA5.out.way.of_block (w' := w5.drewN k) rfl).look h8 hx hy
        rw [HV.out] at h1
        exact h1
      have hlk5' := hlk5 1
      rw [show w5.drewN 1 = w5.drew from rfl] at hlk5'
      have HLK := Lib.hid hlk5
      rw [hw5, hB]
      rw [hB] at HLB
      clear hw5 hlk hlk5 f3 HAW HAF HB0 hc0 hcy hc1'
      refine wp_region_quiet_tail 20 (by kernel_rfl) (by kernel_rfl) ?_
      simp only [List.take_succ_cons, List.take_zero, List.drop_succ_cons, List.drop_zero]
      repeat (go_big_quiet_step (fail))
      refine wpQuiet_nil ?_
      go_wp2_with fail
      obtain ⟨w7, hw7⟩ : ∃ w7, (w5.setCell ⟨A.BH y, x, none⟩ (.int .i64 d)).drew = w7 := ⟨_, rfl⟩
      have HN7 : Hid (LN w7 lab A n t (s.hear y x d)) := by rw [← hw7]; exact (HA5.out.setHeard hy x d).drewN 1
      have HF7 : Hid (AF lab w lab w7) := by rw [← hw7]; exact (HF5.out.setCell (HA5.out.lh y hy) (by simp) x _).trans ⟨(Touch.refl _ _).drewN 1, fun _ _ => rfl⟩
      have HBH : Hid (B ≠ A.BH y) := fun e => by
        have h1 := HLB.out
        rw [e, HA5.out.lh y hy] at h1
        cases h1
      have HQ7 : Hid (∀ v, QueL w lab x y v l → QueL w7 lab x y v l) := fun v hv => hv.same (fun g hg => by
        rw [← hw7]
        exact (Below.heap_setCell w5 ⟨A.BH y, x, none⟩ _ g (lab_ne hg (HA5.out.lh y hy) (by simp))).trans (HB5.out.block g (HLT.out g hg))) (fun g hg => hg)
      obtain ⟨-, -, -, p3⟩ := HN7.out.netCell
      have p0 : w7.cell? ⟨B, 0, none⟩ = some (.int .i64 x) := by rw [← hw7]; exact (cell_far (w := w5) (p := ⟨A.BH y, x, none⟩) (q := ⟨B, 0, none⟩) HBH.out).trans k0
      have p1 : w7.cell? ⟨B, 1, none⟩ = some (.int .i64 y) := by rw [← hw7]; exact (cell_far (w := w5) (p := ⟨A.BH y, x, none⟩) (q := ⟨B, 1, none⟩) HBH.out).trans k1
      have hlk7 : (Instr.lookup 83 (.map (some A.gW)) (pairV x y) false).run Tryd.prog w7.drew = .ok (.slice (some ⟨g, o, none⟩) (L + 1) cq) w7.drew := by
        have h1 := (HN7.out.way.of_block (w' := w7.drew) rfl).look h8 hx hy
        rw [HV.out] at h1
        exact h1
      rw [hw7]
      clear hw7 g0 g1 g2 g3 m0 m1 k0 k1 k2 hlk5' HLK
      have HEND : Hid (∀ u, QueL w7 lab x y (.slice (some u) L (cq - 1)) l → ∀ w8, WayM w8 A.gW n (s.c + 1) (setV A.QV x y (.slice (some u) L (cq - 1))) → w7.drew.grownBy w8 (some A.gW) →
          ∃ A', A'.p = A.p ∧ LN w8 lab A' n t (s.come x y) ∧ AF lab w lab w8) := fun u hq8 w8 hway hgr => by
        have hsw := HN7.out.swap (w' := w8) (lab' := lab) hx hy (v := .slice (some u) L (cq - 1)) (l := l) (fun b hb _ _ hne => hgr.block b hb (by simpa using hne)) hgr.size hway (fun _ _ => rfl) (fun b hb => HN7.out.free b (Nat.le_trans hgr.size hb))
          (hq8.same (fun g hg => hgr.block g (HN7.out.lt (by rw [hg]; simp)) (by simpa using lab_ne hg HN7.out.lW (by simp))) (fun g hg => hg))
        refine ⟨_, (by rfl), hsw.as HCO.out.symm, HF7.out.trans ⟨⟨hgr.os, hgr.tape, hgr.output, hgr.size, fun b hb hl => hgr.block b hb fun e => hl ?_⟩, fun _ _ => rfl⟩⟩
        obtain rfl : b = A.gW := by simpa using e
        rw [HN7.out.lW]; simp
      by_cases hc : cq = 1
      · have HQ8 : Hid (QueL w7 lab x y (.slice (some ⟨g, o, none⟩) L (cq - 1)) l) := HQ7.out _ (HQB.out hc)
        subst hc
        obtain rfl : L = 0 := by omega
        refine wp_region_quiet_tail 12 (by kernel_rfl) (by kernel_rfl) ?_
        simp only [List.take_succ_cons, List.take_zero, List.drop_succ_cons, List.drop_zero]
        repeat (go_big_quiet_step (fail))
        refine wpQuiet_nil ?_
        go_wp2_with (at_mapUpdate; refine wpList_mapUpdate_way rfl _ _ _ rfl rfl (HN7.out.way.of_block (w' := w7.drew) rfl) h8 hx hy hcm rfl (.slice (some ⟨g, o, none⟩) 0 0) rfl ?_)
        intro w8 hway hgr
        obtain ⟨A8, hp8, hN8, hF8⟩ := HEND.out _ HQ8.out w8 hway hgr
        have hcall := lfiAnew lab A8 n t _ y y rfl w8 hN8 h8 hy HI.out.cost (fun r k hr hk => HI.out.hrd0 hr hk)
        rw [hp8] at hcall
        have HC := Lib.hid hcall
        have HF8 := Lib.hid hF8
        have HP8 := Lib.hid hp8
        clear hway hgr hN8 hF8 hp8 hcall HEND HQ8 HN7 HF7 HQ7 p0 p1 p3 hlk7
        go_wp2_with fail
        refine HC.out.mono ?_
        rintro e w9 ⟨rfl, hN9, hF9⟩
        have HN9 := Lib.hid hN9
        have HF9 := Lib.hid (HF8.out.trans hF9)
        clear hN9 hF9 HC
        go_wp2_with fail
        go_ret
        exact ⟨rfl, A8, HP8.out, HN9.out, HF9.out⟩
      · have HQ8 : Hid (QueL w7 lab x y (.slice (some ⟨g, o + 1, none⟩) L (cq - 1)) l) := HQ7.out _ HQA.out
        refine wp_region_quiet_tail 12 (by kernel_rfl) (by kernel_rfl) ?_
        simp only [List.take_succ_cons, List.take_zero, List.drop_succ_cons, List.drop_zero]
        repeat (go_big_quiet_step (fail))
        refine wpQuiet_nil ?_
        go_wp2_with (at_mapUpdate; refine wpList_mapUpdate_way rfl _ _ _ rfl rfl (HN7.out.way.of_block (w' := w7.drew) rfl) h8 hx hy hcm rfl (.slice (some ⟨g, o + 1, none⟩) L (cq - 1)) rfl ?_)
        intro w8 hway hgr
        obtain ⟨A8, hp8, hN8, hF8⟩ := HEND.out _ HQ8.out w8 hway hgr
        have hcall := lfiAnew lab A8 n t _ y y rfl w8 hN8 h8 hy HI.out.cost (fun r k hr hk => HI.out.hrd0 hr hk)
        rw [hp8] at hcall
        have HC := Lib.hid hcall
        have HF8 := Lib.hid hF8
        have HP8 := Lib.hid hp8
        clear hway hgr hN8 hF8 hp8 hcall HEND HQ8 HN7 HF7 HQ7 p0 p1 p3 hlk7
        go_wp2_with fail
        refine HC.out.mono ?_
        rintro e w9 ⟨rfl, hN9, hF9⟩
        have HN9 := Lib.hid hN9
        have HF9 := Lib.hid (HF8.out.trans hF9)
        clear hN9 hF9 HC
        go_wp2_with fail
        go_ret
        exact ⟨rfl, A8, HP8.out, HN9.out, HF9.out⟩
  · obtain ⟨k, hk, hk0⟩ : ∃ k, nearE n s.K a b = k ∧ k ≠ 0 := ⟨_, rfl, h0⟩
    have es : s.takeE n a b = k := by
      unfold LS.takeE
      rw [if_neg (fun h => h0 h.1), hk]
    have en : s.take n t a b = s := by
      unfold LS.take
      rw [es, if_neg hk0]
    have HC := Lib.hid (lfiNear_bad (w := w) h h8 hk hk0)
    have hev : errV k = errNo k := if_neg hk0
    have HA := Lib.hid h
    rw [es, en, hev]
    clear h h0 hk es en hk0 hev hI
    go_enter Tryd.func25, Tryd.ntmps25
    go_wp2_with fail
    refine HC.out.mono ?_
    rintro e w1 ⟨rfl, h1⟩
    subst w1
    go_wp2_with fail
    go_ret
    exact ⟨rfl, A, rfl, HA.out, AF.refl _ _⟩

end Go.Proofs.YtminfghiejgieaaDoor

/- The net's New. -/
namespace Go.Proofs.YtminfghiejgieaaDoor
open Go.RowKit
set_option linter.unusedVariables false

set_option maxRecDepth 100000 in
set_option maxHeartbeats 1000000 in
theorem lfiNew_bad (x : Int) (A : Option Addr) (m cp : Nat) (to : Int) (a b c : Nat → Int) (w : World) (hl : Lnk w A m a b c) (hm : m ≤ 9223372036854775807) (k : Int) (hk : k = 1 ∨ k = 3 ∨ k = 5) (h : FaultG x m a b c k) :
    Calls Tryd.prog 23 #[.int .i64 x, .slice A m cp, .int .i64 to] w fun e w' => e = .returned (.tuple #[.pointer none, errNo k]) ∧ Below w.heap.size w w' := by
  have hcall := costs_bad x A m cp a b c w hl hm k h
  have HC := Lib.hid hcall
  clear hcall hl h hm
  go_enter Tryd.func23, Tryd.ntmps23
  go_wp2_with fail
  refine HC.out.mono ?_
  rintro e w1 ⟨rfl, hb⟩
  have HB := Lib.hid hb
  clear hb HC
  rcases hk with rfl | rfl | rfl
  all_goals
    go_wp2_with fail
    go_ret2
    exact ⟨rfl, HB.out⟩

set_option maxRecDepth 100000 in
set_option maxHeartbeats 1000000 in
theorem lfiNew_range (n : Nat) (x : Int) (hx : x = (n : Int)) (A : Option Addr) (m cp : Nat) (to : Int) (a b c : Nat → Int) (w : World) (hl : Lnk w A m a b c) (hm : m ≤ 9223372036854775807) (hg : GoodG x m a b c) (ht : to < 0 ∨ n ≤ to) :
    Calls Tryd.prog 23 #[.int .i64 x, .slice A m cp, .int .i64 to] w fun e w' => e = .returned (.tuple #[.pointer none, errNo 1]) ∧ Below w.heap.size w w' := by
  have hcall := costs_ok n x hx A m cp a b c w hl hm hg
  have h8 : (n : Int) ≤ 8 := by have := hg.2.1; omega
  subst hx
  have HC := Lib.hid hcall
  clear hcall hl hm hg
  by_cases h0 : to < 0
  · have d1 : decide (to < 0) = true := decide_eq_true h0
    clear ht
    go_enter Tryd.func23, Tryd.ntmps23
    go_wp2_with fail
    refine HC.out.mono ?_
    rintro e w1 ⟨g, cg, B, C, rfl, -, -, hb⟩
    have HB := Lib.hid hb
    clear hb HC
    go_wp2_with fail
    go_ret2
    exact ⟨rfl, HB.out⟩
  · have d1 : decide (to < 0) = false := decide_eq_false h0
    have hge : (n : Int) ≤ to := by omega
    have d2 : decide ((n : Int) ≤ to) = true := decide_eq_true hge
    clear ht
    go_enter Tryd.func23, Tryd.ntmps23
    go_wp2_with fail
    refine HC.out.mono ?_
    rintro e w1 ⟨g, cg, B, C, rfl, -, -, hb⟩
    have HB := Lib.hid hb
    clear hb HC
    go_wp2_with fail
    go_ret2
    exact ⟨rfl, HB.out⟩


theorem infoNodeP : (Tryd.prog.info? 87).map (fun i => (i.zero, i.size, i.bytes)) = some (some (.pointer none), 1, 8) := by kernel_rfl

/-- A slice of i pointers, of the call's own. -/
def OwnN (w : World) (v : Value) (i : Nat) (B : Nat → Nat) : Prop := w.ownsRow 0 87 1 v i ((List.range i).map fun r => .pointer (some ⟨B r, 0, none⟩))
section
variable {w w' : World} {v : Value} {i : Nat} {B : Nat → Nat}
theorem OwnN.nil (w : World) (B : Nat → Nat) : OwnN w (.slice none 0 0) 0 B := World.ownsRow_nil _ _ _ _
theorem OwnN.same (h : OwnN w v i B) (hs : ∀ g, v.ownBlock = some g → w'.heap[g]? = w.heap[g]?) : OwnN w' v i B := by
  refine ⟨h.1, ?_⟩
  rcases h.2 with h' | ⟨g, cap, cur, hv, hb, hg, hrest⟩
  · exact .inl h'
  · exact .inr ⟨g, cap, cur, hv, hb, (hs g (by rw [hv]; rfl)).trans hg, hrest⟩
theorem OwnN.snoc {b : Nat} (h : w.ownsRow 0 87 1 v (i + 1) (((List.range i).map fun r => Value.pointer (some ⟨B r, 0, none⟩)) ++ [.pointer (some ⟨b, 0, none⟩)])) : OwnN w v (i + 1) (upd B i b) := by
  unfold OwnN
  rw [map_range_succ] at h
  have e1 : (List.range (i + 1)).map (upd (fun r => Value.pointer (some ⟨B r, 0, none⟩)) i (.pointer (some ⟨b, 0, none⟩))) = (List.range (i + 1)).map fun r => Value.pointer (some ⟨upd B i b r, 0, none⟩) := by
    apply List.map_congr_left
    intro j hj
    unfold upd
    split <;> rfl
  rw [← e1]
  exact h
end

/-- The net at block p, i of its nodes. -/
structure LP (w : World) (lab : Nat → List Nat) (A : LAd) (n t i : Nat) (vN : Value) (K : Nat → Nat → Int) : Prop where
  blk : Blk w A.p 86 #[.int .i64 t, .slice (some ⟨A.gC, 0, none⟩) n A.cC, vN, .map (some A.gW)]
  cst : RowP w A.gC 24 n fun r => .slice (some ⟨A.BC r, 0, none⟩) n (A.CC r)
  cstr : ∀ r, r < n → RowP w (A.BC r) 3 n fun k => .int .i64 (K r k)
  nod : OwnN w vN i A.BN
  nodr : ∀ r, r < i → Blk w (A.BN r) 89 #[.int .i64 16, .int .i64 16, .slice (some ⟨A.BH r, 0, none⟩) n (A.CH r)]
  hrdr : ∀ r, r < i → RowP w (A.BH r) 3 n fun _ => .int .i64 16
  way : WayM w A.gW n 0 fun _ _ => .slice none 0 0
  lp : lab A.p = [0]
  lC : lab A.gC = [1]
  lc : ∀ r, r < n → lab (A.BC r) = [2, r]
  lN : ∀ g, vN.ownBlock = some g → lab g = [3]
  ln : ∀ r, r < i → lab (A.BN r) = [4, r]
  lh : ∀ r, r < i → lab (A.BH r) = [5, r]
  lW : lab A.gW = [6]
  free : ∀ b, w.heap.size ≤ b → lab b = []

section
variable {w wa w' : World} {lab lab' : Nat → List Nat} {A : LAd} {n t i : Nat} {vN : Value} {K : Nat → Nat → Int}
theorem LP.netCell (h : LP w lab A n t i vN K) : w.cell? ⟨A.p, 2, none⟩ = some vN ∧ w.frozen? ⟨A.p, 2, none⟩ = false := ⟨by simpa using h.blk.cell 2, h.blk.frozen 2⟩

/-- One node more: the append, then the store into the net. -/
theorem LP.grow (h : LP w lab A n t i vN K) (hb : Below w.heap.size w wa) {b bh c g cap : Nat} (hbn : w.heap.size ≤ b) (hbhn : w.heap.size ≤ bh) (hne : b ≠ bh)
    (hnode : Blk wa b 89 #[.int .i64 16, .int .i64 16, .slice (some ⟨bh, 0, none⟩) n c]) (hrow : RowP wa bh 3 n fun _ => .int .i64 16)
    (ho : OwnN w' (.slice (some ⟨g, 0, none⟩) (i + 1) cap) (i + 1) (upd A.BN i b)) (hg : wa.grownBy w' vN.ownBlock) (hor : vN.ownBlock = some g ∨ g = wa.heap.size) :
    ∃ lab', LP (w'.setCell ⟨A.p, 2, none⟩ (.slice (some ⟨g, 0, none⟩) (i + 1) cap)) lab' { A with BN := upd A.BN i b, BH := upd A.BH i bh, CH := upd A.CH i c } n t (i + 1) (.slice (some ⟨g, 0, none⟩) (i + 1) cap) K ∧ (∀ k, k < w.heap.size → lab' k = lab k) := by
  have hsz : w.heap.size ≤ w'.heap.size := Nat.le_trans hb.size hg.size
  have hblk : ∀ k, k < w.heap.size → lab k ≠ [3] → w'.heap[k]? = w.heap[k]? := fun k hk hl => (hg.block k (Nat.lt_of_lt_of_le hk hb.size) fun e => hl (h.lN k e.symm)).trans (hb.block k hk)
  have hbl : b < wa.heap.size := hnode.lt
  have hbhl : bh < wa.heap.size := hrow.lt
  have hnew : ∀ x, w.heap.size ≤ x → x < wa.heap.size → vN.ownBlock ≠ some x := fun x hx hx' e => by
    have := ownsRow_lt h.nod x e
    omega
  have hgb : g ≠ b := by
    rcases hor with e | e
    · have := ownsRow_lt h.nod g e
      omega
    · omega
  have hgbh : g ≠ bh := by
    rcases hor with e | e
    · have := ownsRow_lt h.nod g e
      omega
    · omega
  have hgl : lab g = [3] ∨ w.heap.size ≤ g := by
    rcases hor with e | e
    · exact .inl (h.lN g e)
    · right; rw [e]; exact hb.size
  have hlt := ownsRow_lt ho g rfl
  obtain ⟨L, hL⟩ : ∃ L : Nat → List Nat, L = fun k => if k = g then [3] else if k = b then [4, i] else if k = bh then [5, i] else lab k := ⟨_, rfl⟩
  have hlab : ∀ k, k < w.heap.size → L k = lab k := fun k hk => by
    rw [hL]
    show (if k = g then [3] else if k = b then [4, i] else if k = bh then [5, i] else lab k) = lab k
    by_cases e : k = g
    · subst e
      rw [if_pos rfl]
      rcases hgl with h' | h'
      · exact h'.symm
      · omega
    · rw [if_neg e, if_neg (by omega), if_neg (by omega)]
  have hLg : L g = [3] := by rw [hL]; simp
  have hLb : L b = [4, i] := by
    rw [hL]
    show (if b = g then [3] else if b = b then [4, i] else _) = _
    rw [if_neg (Ne.symm hgb), if_pos rfl]
  have hLbh : L bh = [5, i] := by
    rw [hL]
    show (if bh = g then [3] else if bh = b then [4, i] else if bh = bh then [5, i] else _) = _
    rw [if_neg (Ne.symm hgbh), if_neg (Ne.symm hne), if_pos rfl]
  have hpl := h.blk.lt
  have hlt' : ∀ {k : Nat} {l : List Nat}, lab k = l → l ≠ [] → k < w.heap.size := fun {k} {l} e hl => by
    rcases Nat.lt_or_ge k w.heap.size with h' | h'
    · exact h'
    · rw [h.free k h'] at e; exact absurd e.symm hl
  have hh : ∀ {k : Nat} {l : List Nat}, lab k = l → l ≠ [] → l ≠ [3] → l ≠ [0] → (w'.setCell ⟨A.p, 2, none⟩ (.slice (some ⟨g, 0, none⟩) (i + 1) cap)).heap[k]? = w.heap[k]? := fun e h0 h1 h2 =>
    (Below.heap_setCell _ _ _ _ (lab_ne e h.lp h2)).trans (hblk _ (hlt' e h0) (by rw [e]; exact h1))
  have hL2 : ∀ {k : Nat} {l : List Nat}, lab k = l → l ≠ [] → L k = l := fun e h0 => (hlab _ (hlt' e h0)).trans e
  have hbp : b ≠ A.p := by omega
  have hbhp : bh ≠ A.p := by omega
  have hgp : g ≠ A.p := fun e => by
    rcases hgl with h' | h'
    · rw [e, h.lp] at h'; simp at h'
    · omega
  refine ⟨L, ⟨?_, h.cst.of_block (hh h.lC (by simp) (by simp) (by simp)), fun r hr => (h.cstr r hr).of_block (hh (h.lc r hr) (by simp) (by simp) (by simp)), ho.same fun g' hg' => ?_, fun r hr => ?_, fun r hr => ?_, h.way.of_block (hh h.lW (by simp) (by simp) (by simp)), hL2 h.lp (by simp), hL2 h.lC (by simp), fun r hr => hL2 (h.lc r hr) (by simp), fun g' hg' => ?_, fun r hr => ?_, fun r hr => ?_, hL2 h.lW (by simp), fun k hk => ?_⟩, hlab⟩
  · have h1 : Blk w' A.p _ _ := (hblk A.p hpl (by rw [h.lp]; simp)).trans h.blk
    have := h1.set_ 2 (.slice (some ⟨g, 0, none⟩) (i + 1) cap)
    simpa using this
  · have : g = g' := by simpa [Value.ownBlock] using hg'
    subst this
    exact Below.heap_setCell _ _ _ _ hgp
  · show Blk _ (upd A.BN i b r) _ #[_, _, .slice (some ⟨upd A.BH i bh r, 0, none⟩) n (upd A.CH i c r)]
    unfold upd
    by_cases e : r = i
    · rw [if_pos e, if_pos e, if_pos e]
      exact ((Below.heap_setCell _ _ _ _ hbp).trans (hg.block b hbl fun e' => hnew b hbn hbl e'.symm)).trans hnode
    · rw [if_neg e, if_neg e, if_neg e]
      exact (hh (h.ln r (by omega)) (by simp) (by simp) (by simp)).trans (h.nodr r (by omega))
  · show RowP _ (upd A.BH i bh r) _ n _
    unfold upd
    by_cases e : r = i
    · rw [if_pos e]
      exact (hrow.of_block (hg.block bh hbhl fun e' => hnew bh hbhn hbhl e'.symm)).setOther hbhp _
    · rw [if_neg e]
      exact (h.hrdr r (by omega)).of_block (hh (h.lh r (by omega)) (by simp) (by simp) (by simp))
  · have : g = g' := by simpa [Value.ownBlock] using hg'
    subst this
    exact hLg
  · show L (upd A.BN i b r) = [4, r]
    unfold upd
    by_cases e : r = i
    · rw [if_pos e, hLb, e]
    · rw [if_neg e]
      exact hL2 (h.ln r (by omega)) (by simp)
  · show L (upd A.BH i bh r) = [5, r]
    unfold upd
    by_cases e : r = i
    · rw [if_pos e, hLbh, e]
    · rw [if_neg e]
      exact hL2 (h.lh r (by omega)) (by simp)
  · rw [size_setCell] at hk
    have e1 : ¬ k = g := by omega
    have e2 : ¬ k = b := by have := hg.size; omega
    have e3 : ¬ k = bh := by have := hg.size; omega
    rw [hL]
    show (if k = g then [3] else if k = b then [4, i] else if k = bh then [5, i] else lab k) = []
    rw [if_neg e1, if_neg e2, if_neg e3]
    exact h.free k (Nat.le_trans hsz hk)

open Classical in
/-- The net in the beginning: its costs, and a map with nothing in it. -/
theorem LP.start {base g cg p gW : Nat} {B C : Nat → Nat} (h1 : 1 ≤ n) (hT : TabAt w base (.slice (some ⟨g, 0, none⟩) n cg) B C n n K) (hb : Below w.heap.size w w')
    (hp : w.heap.size ≤ p) (hF : w.heap.size ≤ gW) (hne : p ≠ gW) (hblk : Blk w' p 86 #[.int .i64 t, .slice (some ⟨g, 0, none⟩) n cg, .slice none 0 0, .map (some gW)])
    (hway : WayM w' gW n 0 fun _ _ => .slice none 0 0) (hbase : base ≤ w.heap.size) :
    ∃ lab, LP w' lab ⟨p, g, 0, gW, cg, 0, B, C, fun _ => 0, fun _ => 0, fun _ => 0, fun _ _ => .slice none 0 0⟩ n t 0 (.slice none 0 0) K ∧ ∀ b, b < base → lab b = [] := by
  obtain ⟨g', c', e, hgb, hgl, hcell, hgB⟩ := hT.cells h1
  have e' : g = g' ∧ cg = c' := by
    simp only [Value.slice.injEq, Option.some.injEq, Addr.mk.injEq] at e
    exact ⟨e.1.1, e.2.2⟩
  obtain ⟨rfl, rfl⟩ := e'
  have hown := hT.below hb
  obtain ⟨L, hL⟩ : ∃ L : Nat → List Nat, L = fun k => if k = p then [0] else if k = g then [1] else if k = gW then [6] else if h : ∃ r, r < n ∧ B r = k then [2, Classical.choose h] else [] := ⟨_, rfl⟩
  have hBl : ∀ r, r < n → B r < w.heap.size := fun r hr => (hT.row r hr).2.lt
  have l0 : L p = [0] := by rw [hL]; simp
  have l1 : L g = [1] := by
    rw [hL]
    show (if g = p then [0] else if g = g then [1] else _) = [1]
    rw [if_neg (by omega), if_pos rfl]
  have l7 : L gW = [6] := by
    rw [hL]
    show (if gW = p then [0] else if gW = g then [1] else if gW = gW then [6] else _) = [6]
    rw [if_neg (by omega), if_neg (by omega), if_pos rfl]
  have l2 : ∀ r, r < n → L (B r) = [2, r] := fun r hr => by
    have hx := hBl r hr
    have hy := hgB r hr
    have hex : ∃ q, q < n ∧ B q = B r := ⟨r, hr, rfl⟩
    rw [hL]
    show (if B r = p then [0] else if B r = g then [1] else if B r = gW then [6] else if h : ∃ q, q < n ∧ B q = B r then [2, Classical.choose h] else []) = [2, r]
    rw [if_neg (by omega), if_neg (by omega), if_neg (by omega), dif_pos hex]
    have hs := Classical.choose_spec hex
    rw [hT.inj _ _ hs.1 hr hs.2]
  have lno : ∀ k, k ≠ p → k ≠ g → k ≠ gW → (∀ r, r < n → B r ≠ k) → L k = [] := fun k h0 h1 h2 h3 => by
    rw [hL]
    show (if k = p then [0] else if k = g then [1] else if k = gW then [6] else if h : ∃ q, q < n ∧ B q = k then [2, Classical.choose h] else []) = []
    rw [if_neg h0, if_neg h1, if_neg h2, dif_neg fun ⟨r, hr, e⟩ => h3 r hr e]
  refine ⟨L, ⟨hblk, (RowP.of_own hT.own).below hb hgl, fun r hr => (hown.row r hr).2, OwnN.nil _ _, fun r hr => absurd hr (by omega), fun r hr => absurd hr (by omega), hway, l0, l1, l2, fun g hg => (by cases hg), fun r hr => absurd hr (by omega), fun r hr => absurd hr (by omega), l7, fun k hk => ?_⟩, fun k hk => ?_⟩
  · have h1 := hblk.lt
    have h2 := hway.lt
    have h3 := hb.size
    refine lno k (by omega) (by omega) (by omega) fun r hr => ?_
    have := hBl r hr
    omega
  · refine lno k (by omega) (by omega) (by omega) fun r hr => ?_
    have := (hT.row r hr).1
    omega

/-- All nodes are there. -/
theorem LP.done (h1 : 1 ≤ n) (h : LP w lab A n t n vN K) : ∃ A', A'.p = A.p ∧ LN w lab A' n t ⟨fun _ => 16, fun _ => 16, fun _ _ => 16, fun _ _ => [], K, 0⟩ := by
  rcases h.nod.2 with ⟨-, h0⟩ | ⟨gN, cN, curN, rfl, -⟩
  · omega
  exact ⟨{ A with gN := gN, cN := cN, QV := fun _ _ => .slice none 0 0 }, rfl, h.blk, h.cst, h.cstr, RowP.of_own h.nod, h.nodr, h.hrdr, h.way, fun r k hr hk => QueL.nil _ _ _ _, h.lp, h.lC, h.lc, h.lN gN rfl, h.ln, h.lh, h.lW, h.free⟩
end

end Go.Proofs.YtminfghiejgieaaDoor

/- The net's New, of right nodes and links. -/
namespace Go.Proofs.YtminfghiejgieaaDoor
open Go.RowKit
set_option linter.unusedVariables false

/-- What the end of New reads. -/
def NewL (A : LAd) (n t : Nat) (w : World) : Prop := w.cell? ⟨A.p, 2, none⟩ = some (.slice (some ⟨A.gN, 0, none⟩) n A.cN) ∧ w.cell? ⟨A.gN, t, none⟩ = some (.pointer (some ⟨A.BN t, 0, none⟩))

set_option maxRecDepth 100000 in
set_option maxHeartbeats 2000000 in
theorem lfiNew_ok (n : Nat) (x : Int) (hx : x = (n : Int)) (A : Option Addr) (m cp : Nat) (t : Nat) (y : Int) (hy : y = (t : Int)) (a b c : Nat → Int) (w : World) (hl : Lnk w A m a b c) (hm : m ≤ 9223372036854775807) (hg : GoodG x m a b c) (ht : t < n) :
    Calls Tryd.prog 23 #[.int .i64 x, .slice A m cp, .int .i64 y] w fun e w' => ∃ lab Ad, e = .returned (.tuple #[.pointer (some ⟨Ad.p, 0, none⟩), .nilIface]) ∧ LN w' lab Ad n t (LS.new t (costF m a b c)) ∧ (∀ b, b < w.heap.size → lab b = []) ∧ Below w.heap.size w w' := by
  have hcall := costs_ok n x hx A m cp a b c w hl hm hg
  have h1 : 1 ≤ n := by have := hg.1; omega
  have h8 : n ≤ 8 := by have := hg.2.1; omega
  have h8' : (n : Int) ≤ 8 := by omega
  have h1' : (1 : Int) ≤ n := by omega
  subst hx
  subst hy
  have ht' : (t : Int) < n := by omega
  have d1 : decide ((t : Int) < 0) = false := decide_eq_false (by omega)
  have d2 : decide (n ≤ t) = false := decide_eq_false (by omega)
  have hmm := @run_makeMap Tryd.prog
  have HC := Lib.hid hcall
  clear hcall hl hm hg
  go_enter Tryd.func23, Tryd.ntmps23
  go_wp2_with fail
  refine HC.out.mono ?_
  rintro e w1 ⟨g, cg, B, C, rfl, -, hT, hb⟩
  have HT := Lib.hid hT
  have HB := Lib.hid hb
  clear hT hb HC
  go_wp2_with fail
  have hap : ∃ lab A0, A0.p = w1.heap.size + 1 ∧ LP ((w1.alloc (.map #[] 0)).alloc (.cells #[.int .i64 t, .slice (some ⟨g, 0, none⟩) n cg, .slice none 0 0, .map (some w1.heap.size)] 86)) lab A0 n t 0 (.slice none 0 0) (costF m a b c) ∧ ∀ b, b < w.heap.size → lab b = [] := by
    have hb1 : Below w1.heap.size w1 ((w1.alloc (.map #[] 0)).alloc (.cells #[.int .i64 t, .slice (some ⟨g, 0, none⟩) n cg, .slice none 0 0, .map (some w1.heap.size)] 86)) := ((Below.refl _ _).alloc (Nat.le_refl _) _).alloc (by simp) _
    obtain ⟨lab, h, hb⟩ := LP.start (t := t) (p := w1.heap.size + 1) (gW := w1.heap.size) h1 HT.out hb1 (by omega) (Nat.le_refl _) (by omega) (by
      have := Blk.new (w1.alloc (.map #[] 0)) 86 #[.int .i64 t, .slice (some ⟨g, 0, none⟩) n cg, .slice none 0 0, .map (some w1.heap.size)]
      simpa using this) ((WayM.made w1 n).of_block (Below.heap_alloc _ _ _ (by simp))) HB.out.size
    exact ⟨lab, _, rfl, h, hb⟩
  have HAP := Lib.hid hap
  have HB4 : Hid (Below w.heap.size w ((w1.alloc (.map #[] 0)).alloc (.cells #[.int .i64 t, .slice (some ⟨g, 0, none⟩) n cg, .slice none 0 0, .map (some w1.heap.size)] 86))) := (HB.out.alloc HB.out.size _).alloc (by have := HB.out.size; simp; omega) _
  have HSZ : Hid (w.heap.size ≤ w1.heap.size + 1) := by
    have h1 := HB.out.size
    show w.heap.size ≤ w1.heap.size + 1
    omega
  obtain ⟨w4, hw4⟩ : ∃ w4, ((w1.alloc (.map #[] 0)).alloc (.cells #[.int .i64 t, .slice (some ⟨g, 0, none⟩) n cg, .slice none 0 0, .map (some w1.heap.size)] 86)) = w4 := ⟨_, rfl⟩
  rw [hw4] at HAP HB4 ⊢
  obtain ⟨p0, hp0⟩ : ∃ p0, w1.heap.size + 1 = p0 := ⟨_, rfl⟩
  rw [hp0] at HAP HSZ ⊢
  clear hw4 hp0 HT HB hap hmm
  go_loopw [34] (fun q wr => ∃ i : Nat, i ≤ n ∧ q = .int .i64 i ∧ (∃ lab A0 vN, A0.p = p0 ∧ LP wr lab A0 n t i vN (costF m a b c) ∧ ∀ b, b < w.heap.size → lab b = []) ∧ Below w.heap.size w wr) (fun q _ => n - (intOf q).toNat)
  case atStart =>
    obtain ⟨lab, A0, h1, h2, h3⟩ := HAP.out
    exact ⟨0, by omega, rfl, ⟨lab, A0, _, h1, h2, h3⟩, HB4.out⟩
  case round =>
    obtain ⟨i, hi, rfl, ⟨lab, A0, vN, hp, hA, hlow⟩, hbw⟩ := hrel
    have HA := Lib.hid hA
    have HLO := Lib.hid hlow
    have HBW := Lib.hid hbw
    have HP := Lib.hid hp
    rw [← hp] at HSZ ⊢
    clear hlow hbw hp HAP HB4
    by_cases hin : i < n
    · have hin' : (i : Int) < n := by omega
      obtain ⟨c2, c4⟩ := hA.netCell
      have hpl := hA.blk.lt
      have hcl := repeat_ints wr.heap.size n n 16 (wr.alloc (.cells #[.int .i64 16] 3)).drew rfl h1 h8 ((Blk.new wr 3 #[.int .i64 16]).cell 0)
      have hz6 : (wr.alloc (.cells #[.int .i64 16] 3)).drew.heap.size = wr.heap.size + 1 := by show (wr.alloc (.cells #[.int .i64 16] 3)).heap.size = _; simp
      rw [hz6] at hcl
      have HCL := Lib.hid hcl
      have hb61 : Below wr.heap.size wr (wr.alloc (.cells #[.int .i64 16] 3)).drew := ((Below.refl _ _).alloc (Nat.le_refl _) _).drew
      have HB61 := Lib.hid hb61
      have hca : (wr.alloc (.cells #[.int .i64 16] 3)).cell? ⟨A0.p, 2, none⟩ = some vN := (((Below.refl wr.heap.size wr).alloc (Nat.le_refl _) _).cell hpl (p := ⟨A0.p, 2, none⟩)).trans c2
      obtain ⟨j0, hj0, hy0, hy1, hy2⟩ := info_parts infoNodeP
      have HJ := Lib.hid hj0
      have HY := Lib.hid hy0
      have HY1 := Lib.hid hy1
      have HY2 := Lib.hid hy2
      clear hcl hz6 hb61 hj0 hy0 hy1 hy2 hA
      go_wp2_with fail
      go_region_law (first
        | (go_simp
           refine HCL.out.mono ?_
           rintro e w7 ⟨rfl, hblk7, hb7⟩
           have hb67 : Below wr.heap.size wr w7 := HB61.out.trans (hb7.mono (by omega))
           have hc7 := (hb67.cell hpl (p := ⟨A0.p, 2, none⟩)).trans c2
           have hlt7 := World.block_lt_of_cell? w7 _ hc7
           have hc7a : (w7.alloc (.cells #[.int .i64 16, .int .i64 16, .slice (some ⟨wr.heap.size + 1, 0, none⟩) n n] 89)).cell? ⟨A0.p, 2, none⟩ = some vN := (((Below.refl w7.heap.size w7).alloc (Nat.le_refl _) _).cell hlt7 (p := ⟨A0.p, 2, none⟩)).trans hc7
           have hb7b : Below w7.heap.size w7 ((w7.alloc (.cells #[.int .i64 16, .int .i64 16, .slice (some ⟨wr.heap.size + 1, 0, none⟩) n n] 89)).alloc (.cells #[.pointer (some ⟨w7.heap.size, 0, none⟩)] 87)) := ((Below.refl _ _).alloc (Nat.le_refl _) _).alloc (by simp) _
           have hc7b : ((w7.alloc (.cells #[.int .i64 16, .int .i64 16, .slice (some ⟨wr.heap.size + 1, 0, none⟩) n n] 89)).alloc (.cells #[.pointer (some ⟨w7.heap.size, 0, none⟩)] 87)).cell? ⟨A0.p, 2, none⟩ = some vN := (hb7b.cell hlt7 (p := ⟨A0.p, 2, none⟩)).trans hc7
           have HB67 := Lib.hid hb67
           have HBK7 := Lib.hid hblk7
           have HB7B := Lib.hid hb7b
           clear hblk7 hb7 hb67 hb7b)
        | (refine step_append_lies _ rfl (.tmp 40) (.tmp 46) 84 rfl 0 87 j0 _ 1 8 Tryd.underlying84 HJ.out HY.out HY1.out HY2.out rfl (by decide) vN i _ rfl (HA.out.nod.same fun g hg => (HB67.out.trans (HB7B.out.mono HB67.out.size)).block g (ownsRow_lt HA.out.nod g hg)) ⟨w7.heap.size + 1, 0, none⟩ 1 1 [.pointer (some ⟨w7.heap.size, 0, none⟩)] rfl rfl (cell_new_at _ _ _ (by simp)) (by simp [Value.oneCell']) (by omega) (by unfold maxLen; omega) (by omega) (Nat.zero_le _) _ rfl ?_
           intro g8 cap8 w8 hO8 hg8 ho8 hl8
           have hp8 : some A0.p ≠ vN.ownBlock := fun e => by
             have h1 := HA.out.lN A0.p e.symm
             rw [HA.out.lp] at h1
             simp at h1
           have hb68 : Below wr.heap.size wr ((w7.alloc (.cells #[.int .i64 16, .int .i64 16, .slice (some ⟨wr.heap.size + 1, 0, none⟩) n n] 89)).alloc (.cells #[.pointer (some ⟨w7.heap.size, 0, none⟩)] 87)) := HB67.out.trans (HB7B.out.mono HB67.out.size)
           have hc8 := ((hg8.cell_far ⟨A0.p, 2, none⟩ (Nat.lt_of_lt_of_le hpl hb68.size) hp8).trans (hb68.cell hpl (p := ⟨A0.p, 2, none⟩))).trans c2
           have hf8 := ((hg8.frozen_far ⟨A0.p, 2, none⟩ (Nat.lt_of_lt_of_le hpl hb68.size) hp8).trans (hb68.frozen hpl (p := ⟨A0.p, 2, none⟩))).trans c4
           have HB68 := Lib.hid hb68
           clear hb68))
      all_goals
        have hrow8 : RowP ((w7.alloc (.cells #[.int .i64 16, .int .i64 16, .slice (some ⟨wr.heap.size + 1, 0, none⟩) n n] 89)).alloc (.cells #[.pointer (some ⟨w7.heap.size, 0, none⟩)] 87)) (wr.heap.size + 1) 3 n fun _ => .int .i64 16 := RowP.alloc (RowP.alloc ⟨_, HBK7.out, by simp, fun i hi => by simp [hi]⟩ _) _
        have hnode8 : Blk ((w7.alloc (.cells #[.int .i64 16, .int .i64 16, .slice (some ⟨wr.heap.size + 1, 0, none⟩) n n] 89)).alloc (.cells #[.pointer (some ⟨w7.heap.size, 0, none⟩)] 87)) w7.heap.size 89 #[.int .i64 16, .int .i64 16, .slice (some ⟨wr.heap.size + 1, 0, none⟩) n n] := (Blk.new _ _ _).alloc _
        have hlt8 : wr.heap.size + 1 < w7.heap.size := Blk.lt HBK7.out
        obtain ⟨lab9, hA9, hlab9⟩ := HA.out.grow HB68.out (b := w7.heap.size) (bh := wr.heap.size + 1) (c := n) (g := g8) (cap := cap8) (by omega) (by omega) (by omega) hnode8 hrow8 (OwnN.snoc hO8) hg8 ho8
        have HA9 := Lib.hid hA9
        have HLAB9 := Lib.hid hlab9
        have HB9 : Hid (Below w.heap.size w (w8.setCell ⟨A0.p, 2, none⟩ (.slice (some ⟨g8, 0, none⟩) (i + 1) cap8))) := by
          have h1 := HSZ.out
          refine ((HBW.out.trans (HB68.out.mono HBW.out.size)).trans ⟨hg8.os, hg8.tape, hg8.output, hg8.size, fun k hk => hg8.block k (by have := HBW.out.size; have := HB68.out.size; omega) fun e => ?_⟩).setCell h1 _
          have h2 := HA.out.lN k e.symm
          rw [HLO.out k hk] at h2
          cases h2
        clear hO8 hg8 ho8 hl8 hp8 hA9 hlab9 hrow8 hnode8 hlt8 c2 c4
        go_wp2_with fail
        go_roundw
        case rel => exact ⟨i + 1, by omega, by go_num, ⟨lab9, _, _, (by rfl), HA9.out, fun b hb => by rw [HLAB9.out b (by have := HBW.out.size; omega)]; exact HLO.out b hb⟩, HB9.out⟩
        case measure => simp [intOf]; omega
    · have ei : i = n := by omega
      subst ei
      obtain ⟨A1, hA1, hN⟩ := hA.done h1
      have HN := Lib.hid hN
      rw [← hA1] at HSZ ⊢
      have HA1 := Lib.hid hA1
      clear hA hA1
      obtain ⟨-, -, f2, -⟩ := hN.netCell
      have r1 := hN.nod.cell ht
      have z0 := (hN.nodr t ht).cell 0
      have z1 := (hN.nodr t ht).cell 1
      simp only [List.getElem?_toArray, List.getElem?_cons_zero, List.getElem?_cons_succ] at z0 z1
      have z2 := (hN.nodr t ht).frozen 0
      have z3 := (hN.nodr t ht).frozen 1
      have q0 : A1.p ≠ A1.BN t := lab_ne hN.lp (hN.ln t ht) (by simp)
      have q1 : A1.gN ≠ A1.BN t := lab_ne hN.lN (hN.ln t ht) (by simp)
      have HS1 : Hid (NewL A1 i t (wr.setCell ⟨A1.BN t, 0, none⟩ (.int .i64 0)).drew) := ⟨(cell_far (w := wr) (p := ⟨A1.BN t, 0, none⟩) q0).trans f2, (cell_far (w := wr) (p := ⟨A1.BN t, 0, none⟩) q1).trans r1⟩
      have HS2 : Hid (NewL A1 i t ((wr.setCell ⟨A1.BN t, 0, none⟩ (.int .i64 0)).setCell ⟨A1.BN t, 1, none⟩ (.int .i64 0)).drew) := ⟨(cell_far (w := wr.setCell ⟨A1.BN t, 0, none⟩ (.int .i64 0)) (p := ⟨A1.BN t, 1, none⟩) q0).trans ((cell_far (w := wr) (p := ⟨A1.BN t, 0, none⟩) q0).trans f2), (cell_far (w := wr.setCell ⟨A1.BN t, 0, none⟩ (.int .i64 0)) (p := ⟨A1.BN t, 1, none⟩) q1).trans ((cell_far (w := wr) (p := ⟨A1.BN t, 0, none⟩) q1).trans r1)⟩
      have HZ : Hid (LN ((wr.setCell ⟨A1.BN t, 0, none⟩ (.int .i64 0)).setCell ⟨A1.BN t, 1, none⟩ (.int .i64 0)) lab A1 i t (LS.new t (costF m a b c))) := ((hN.setFar ht 0).setLeast ht 0).as (by
        have e : upd (fun _ => (16 : Int)) t 0 = startF t := by
          funext z
          unfold upd startF
          rfl
        show LS.mk (upd (fun _ => (16 : Int)) t 0) (upd (fun _ => (16 : Int)) t 0) _ _ _ _ = _
        rw [e]
        rfl)
      have HBZ : Hid (Below w.heap.size w ((wr.setCell ⟨A1.BN t, 0, none⟩ (.int .i64 0)).setCell ⟨A1.BN t, 1, none⟩ (.int .i64 0))) := by
        have hge : w.heap.size ≤ A1.BN t := by
          rcases Nat.lt_or_ge (A1.BN t) w.heap.size with h' | h'
          · have := HLO.out _ h'
            rw [hN.ln t ht] at this
            cases this
          · exact h'
        exact (HBW.out.setCell hge _).setCell hge _
      clear hN HN q0 q1
      go_wp2_with fail
      go_region_held3 (fun w' => w'.cell? ⟨A1.p, 2, none⟩ = some (.slice (some ⟨A1.gN, 0, none⟩) i A1.cN) ∧ w'.cell? ⟨A1.gN, t, none⟩ = some (.pointer (some ⟨A1.BN t, 0, none⟩))) (first | exact HS1.out | exact HS2.out | go_keep) (fail)
      go_wp2_with fail
      go_ret2
      exact ⟨lab, A1, rfl, HZ.out.drewN 1, HLO.out, below_drewN HBZ.out 1⟩

end Go.Proofs.YtminfghiejgieaaDoor

/- What a net's owner sees of what it does; the fact of a net. -/
namespace Go.Proofs.YtminfghiejgieaaDoor
open Go.RowKit
set_option linter.unusedVariables false

/-- The net is there, and its state is one of these; blocks of this kind are none of its, and are as they were. -/
def NetP (wx : World) (fr : Nat → Prop) (p0 n t C : Nat) (wr : World) (F : LS → Prop) : Prop :=
  ∃ lab A s, A.p = p0 ∧ LN wr lab A n t s ∧ LInv n t s ∧ s.c ≤ C ∧ (∀ b, fr b → lab b = [] ∧ b < wx.heap.size) ∧ Touch (fun b => ¬ fr b) wx wr ∧ F s

section
variable {wx w w' : World} {fr : Nat → Prop} {p0 n t C : Nat} {F G : LS → Prop}
theorem NetP.imp (h : NetP wx fr p0 n t C w F) (hi : ∀ s, LInv n t s → F s → G s) : NetP wx fr p0 n t C w G := by
  obtain ⟨lab, A, s, h1, h2, h3, h4, h5, h6, h7⟩ := h
  exact ⟨lab, A, s, h1, h2, h3, h4, h5, h6, hi s h3 h7⟩
theorem NetP.touch (h : NetP wx fr p0 n t C w F) : Touch (fun b => ¬ fr b) wx w := by
  obtain ⟨lab, A, s, h1, h2, h3, h4, h5, h6, h7⟩ := h
  exact h6
theorem NetP.bel {B : Nat} (h : NetP wx fr p0 n t C w F) (hB : ∀ b, b < B → fr b) : Below B wx w := by
  obtain ⟨lab, A, s, h1, h2, h3, h4, h5, h6, h7⟩ := h
  exact ⟨h6.os, h6.tape, h6.output, h6.size, fun k hk => h6.block k (h5 k (hB k hk)).2 fun hn => hn (hB k hk)⟩
theorem NetP.drewN (h : NetP wx fr p0 n t C w F) (k : Nat) : NetP wx fr p0 n t C (w.drewN k) F := by
  obtain ⟨lab, A, s, h1, h2, h3, h4, h5, h6, h7⟩ := h
  exact ⟨lab, A, s, h1, h2.drewN k, h3, h4, h5, h6.drewN k, h7⟩
theorem NetP.below (h : NetP wx fr p0 n t C w F) (hb : Below w.heap.size w w') : NetP wx fr p0 n t C w' F := by
  obtain ⟨lab, A, s, h1, h2, h3, h4, h5, h6, h7⟩ := h
  exact ⟨lab, A, s, h1, h2.below hb, h3, h4, h5, h6.trans' (Touch.of_below (S := fun _ => False) hb) (fun i hi => hi.elim), h7⟩
/-- From here on. -/
theorem NetP.here (h : NetP wx fr p0 n t C w F) : NetP w fr p0 n t C w F := by
  obtain ⟨lab, A, s, h1, h2, h3, h4, h5, h6, h7⟩ := h
  exact ⟨lab, A, s, h1, h2, h3, h4, fun b hb => ⟨(h5 b hb).1, Nat.lt_of_lt_of_le (h5 b hb).2 h6.size⟩, Touch.refl _ _, h7⟩
theorem NetP.of {lab : Nat → List Nat} {A : LAd} {s : LS} (h : LN w lab A n t s) (hI : LInv n t s) (hc : s.c ≤ C) (hp : A.p = p0) (hl : ∀ b, fr b → lab b = []) (hlt : ∀ b, fr b → b < w.heap.size) (hF : F s) : NetP w fr p0 n t C w F :=
  ⟨lab, A, s, hp, h, hI, hc, fun b hb => ⟨hl b hb, hlt b hb⟩, Touch.refl _ _, hF⟩

theorem touch_af {lab lab' : Nat → List Nat} (h6 : Touch (fun b => ¬ fr b) wx w) (h5 : ∀ b, fr b → lab b = [] ∧ b < wx.heap.size) (k : AF lab w lab' w') : (∀ b, fr b → lab' b = [] ∧ b < wx.heap.size) ∧ Touch (fun b => ¬ fr b) wx w' :=
  ⟨fun b hb => ⟨k.free (Nat.lt_of_lt_of_le (h5 b hb).2 h6.size) (h5 b hb).1, (h5 b hb).2⟩, ⟨k.touch.os.trans h6.os, k.touch.tape.trans h6.tape, k.touch.output.trans h6.output, Nat.le_trans h6.size k.touch.size, fun b hb hn =>
    (k.block (Nat.lt_of_lt_of_le hb h6.size) (h5 b (Classical.not_not.1 hn)).1).trans (h6.block b hb hn)⟩⟩

theorem NetP.send (h : NetP wx fr p0 n t C w F) (h8 : n ≤ 8) (hC : C < maxLen) (a b : Int) (hFG : ∀ s, LInv n t s → F s → G (s.send n a b)) :
    Calls Tryd.prog 24 #[.pointer (some ⟨p0, 0, none⟩), .int .i64 a, .int .i64 b] w fun e w' => ∃ v, e = .returned v ∧ NetP wx fr p0 n t (C + 1) w' G := by
  obtain ⟨lab, A, s, rfl, h2, h3, h4, h5, h6, h7⟩ := h
  refine (lfiSend lab A n t s a b w h2 h8 (by omega)).mono ?_
  rintro e w' ⟨he, lab', A', k1, k2, k3⟩
  obtain ⟨k4, k5⟩ := touch_af h6 h5 k3
  exact ⟨_, he, lab', A', _, k1, k2, h3.send a b, by
    have := act_c (n := n) (t := t) s 0 a b 0
    rw [show s.act n t 0 a b 0 = s.send n a b from if_pos rfl] at this
    omega, k4, k5, hFG s h3 h7⟩
theorem NetP.take (h : NetP wx fr p0 n t C w F) (h8 : n ≤ 8) (hC : C < maxLen) (a b : Int) (hFG : ∀ s, LInv n t s → F s → G (s.take n t a b)) :
    Calls Tryd.prog 25 #[.pointer (some ⟨p0, 0, none⟩), .int .i64 a, .int .i64 b] w fun e w' => ∃ v, e = .returned v ∧ NetP wx fr p0 n t (C + 1) w' G := by
  obtain ⟨lab, A, s, rfl, h2, h3, h4, h5, h6, h7⟩ := h
  refine (lfiTake lab A n t s a b w h2 h8 h3 (by omega)).mono ?_
  rintro e w' ⟨he, A', k1, k2, k3⟩
  obtain ⟨k4, k5⟩ := touch_af h6 h5 k3
  exact ⟨_, he, lab, A', _, k1, k2, h3.take a b, by
    have := act_c (n := n) (t := t) s 1 a b 0
    rw [show s.act n t 1 a b 0 = s.take n t a b from by unfold LS.act; rw [if_neg (by omega), if_pos rfl]] at this
    omega, k4, k5, hFG s h3 h7⟩
theorem NetP.cost (h : NetP wx fr p0 n t C w F) (h8 : n ≤ 8) (a b c : Int) (hFG : ∀ s, LInv n t s → F s → G (s.cost n t a b c)) :
    Calls Tryd.prog 27 #[.pointer (some ⟨p0, 0, none⟩), .int .i64 a, .int .i64 b, .int .i64 c] w fun e w' => ∃ v, e = .returned v ∧ NetP wx fr p0 n t (C + 1) w' G := by
  obtain ⟨lab, A, s, rfl, h2, h3, h4, h5, h6, h7⟩ := h
  refine (lfiCost lab A n t s a b c w h2 h8 h3).mono ?_
  rintro e w' ⟨he, k2, k3⟩
  obtain ⟨k4, k5⟩ := touch_af h6 h5 k3
  exact ⟨_, he, lab, A, _, rfl, k2, h3.cost' a b c, by
    have := act_c (n := n) (t := t) s 2 a b c
    rw [show s.act n t 2 a b c = s.cost n t a b c from by unfold LS.act; rw [if_neg (by omega), if_neg (by omega)]] at this
    omega, k4, k5, hFG s h3 h7⟩
end

section
variable {w : World} {lab : Nat → List Nat} {A : LAd} {n t : Nat} {s : LS}
theorem lfiDist_at (h : LN w lab A n t s) (h8 : n ≤ 8) (i : Nat) (z : Int) (hz : z = (i : Int)) (hi : i < n) :
    Calls Tryd.prog 29 #[.pointer (some ⟨A.p, 0, none⟩), .int .i64 z] w fun e w' => e = .returned (.tuple #[.int .i64 (s.f i), .nilIface]) ∧ w' = w := by
  subst hz
  have := lfiDist lab A n t s i w h h8
  rw [if_neg (by omega), show ((i : Int)).toNat = i by omega] at this
  exact this
theorem lfiLeast_at (h : LN w lab A n t s) (h8 : n ≤ 8) (i : Nat) (z : Int) (hz : z = (i : Int)) (hi : i < n) :
    Calls Tryd.prog 30 #[.pointer (some ⟨A.p, 0, none⟩), .int .i64 z] w fun e w' => e = .returned (.tuple #[.int .i64 (s.e i), .nilIface]) ∧ w' = w := by
  subst hz
  have := lfiLeast lab A n t s i w h h8
  rw [if_neg (by omega), show ((i : Int)).toNat = i by omega] at this
  exact this
end

/-- The net of the fact. -/
abbrev freeK : Nat → Nat → Int := costF 1 (fun _ => 0) (fun _ => 1) (fun _ => 3)
theorem free_e1 : (LS.new 0 freeK).sendE 2 0 1 = 0 := by decide
theorem free_e2 : ((LS.new 0 freeK).send 2 0 1).takeE 2 0 1 = 0 := by decide
theorem free_e3 : (((LS.new 0 freeK).send 2 0 1).take 2 0 0 1).nexts 2 0 1 = [0] := by decide

set_option maxRecDepth 100000 in
set_option maxHeartbeats 1000000 in
theorem free_walk (w : World) : Calls Tryd.prog 22 #[] w fun e w' => e = .returned (.bool true) ∧ Below w.heap.size w w' := by
  go_enter Tryd.func22, Tryd.ntmps22
  go_wp2_with fail
  have hcall := lfiNew_ok 2 2 rfl (some ⟨w.heap.size, 0, none⟩) 1 1 0 0 rfl (fun _ => 0) (fun _ => 1) (fun _ => 3) _ (lnk_lit w) (by omega) good_lit (by omega)
  refine hcall.mono ?_
  clear hcall
  rintro e w1 ⟨lab, A, rfl, hA, hlow, hb⟩
  have HA := Lib.hid hA
  have HI : Hid (LInv 2 0 (LS.new 0 freeK)) := LInv.new (cost_m right_lit)
  have HB := Lib.hid ((((Below.refl w.heap.size w).alloc (Nat.le_refl _) _).trans (hb.mono (by simp))))
  have HLO : Hid (∀ b, b < w.heap.size → lab b = []) := fun b hb' => hlow b (by simp; omega)
  clear hA hb hlow
  go_wp2_with fail
  have hcall := lfiSend lab A 2 0 _ 0 1 w1 HA.out (by omega) (by show 0 < maxLen; unfold maxLen; omega)
  rw [free_e1, errV_zero] at hcall
  refine hcall.mono ?_
  clear hcall
  rintro e w2 ⟨rfl, lab2, A2, hp2, hA2, hF2⟩
  obtain ⟨hb2, hl2⟩ := hF2.below HB.out.size HLO.out
  have HA2 := Lib.hid hA2
  have HI2 := Lib.hid (HI.out.send (0 : Int) 1)
  have HB2 := Lib.hid (HB.out.trans hb2)
  have HLO2 := Lib.hid hl2
  rw [← hp2]
  clear hA2 hF2 hb2 hl2 HA HI HB HLO hp2
  go_wp2_with fail
  have hcall := lfiTake lab2 A2 2 0 _ 0 1 w2 HA2.out (by omega) HI2.out (by
    have := act_c (n := 2) (t := 0) (LS.new 0 freeK) 0 0 1 0
    rw [show (LS.new 0 freeK).act 2 0 0 0 1 0 = (LS.new 0 freeK).send 2 0 1 from if_pos rfl] at this
    exact Nat.lt_of_le_of_lt this (by show 1 < maxLen; unfold maxLen; omega))
  rw [free_e2, errV_zero] at hcall
  refine hcall.mono ?_
  clear hcall
  rintro e w3 ⟨rfl, A3, hp3, hA3, hF3⟩
  obtain ⟨hb3, hl3⟩ := hF3.below HB2.out.size HLO2.out
  have HA3 := Lib.hid hA3
  have HB3 := Lib.hid (HB2.out.trans hb3)
  rw [← hp3]
  clear hA3 hF3 hb3 hl3 HA2 HI2 HB2 HLO2 hp3
  go_wp2_with fail
  have hcall := lfiNexts lab2 A3 2 0 _ 1 1 rfl w3 HA3.out (by omega) (by omega)
  rw [free_e3] at hcall
  refine hcall.mono ?_
  clear hcall
  rintro e w4 ⟨v, rfl, hv, hb4⟩
  obtain ⟨Av, cv, rfl, hvec⟩ := hv.vec
  have HV := Lib.hid hvec
  have HB4 := Lib.hid (keep HB3.out hb4)
  clear hv hvec hb4
  go_wp2_with fail
  have hcall := ints_walk Av (some ⟨w4.heap.size, 0, none⟩) 1 1 cv 1 (atL [0]) (fun _ => 0) (w4.alloc (.cells #[.int .i64 0] 3)) (HV.out.keep ((Below.refl _ _).alloc (Nat.le_refl _) (.cells #[.int .i64 0] 3)))
    (fun j hj => ⟨_, rfl, (Blk.new w4 3 #[.int .i64 0]).lt, by
      obtain rfl : j = 0 := by omega
      exact (Blk.new w4 3 #[.int .i64 0]).cell 0⟩) (by omega) (by omega) true ⟨fun _ => ⟨rfl, fun i hi => by
        obtain rfl : i = 0 := by omega
        rfl⟩, fun _ => rfl⟩
  refine hcall.mono ?_
  clear hcall
  rintro e w5 ⟨rfl, k5, rfl⟩
  go_wp2_with fail
  go_ret
  exact ⟨rfl, below_drewN (HB4.out.alloc HB4.out.size _) _⟩

end Go.Proofs.YtminfghiejgieaaDoor

/- The net that is never round and the reference's net, side by side. -/
namespace Go.Proofs.YtminfghiejgieaaDoor
open Go.RowKit
set_option linter.unusedVariables false

structure QL (w : World) (lab : Nat → List Nat) (A : LAd) (p : Nat) (v : Array Value) (n t : Nat) (s : LS) (K h : Nat → Nat → Int) (f e : Nat → Int) (W : WayL) : Prop where
  an : LN w lab A n t s
  inv : LInv n t s
  blk : Blk w p 37 v
  lp : lab p = []
  qr : QR (fun b => lab b = [] ∧ b ≠ p) w v n t K h f e W

/-- Both think, heard and sent the same, at the same costs. -/
structure SynL (n : Nat) (s : LS) (K h : Nat → Nat → Int) (f e : Nat → Int) (W : WayL) : Prop where
  K : K = s.K
  h : h = s.h
  f : f = s.f
  e : e = s.e
  way : ∀ a b, s.q a b = onWay W a b
  mem : ∀ q, q ∈ W → q.1 < n ∧ q.2.1 < n

section
variable {w w' : World} {lab lab' : Nat → List Nat} {A A' : LAd} {p n t : Nat} {v v' : Array Value} {K K' : Nat → Nat → Int} {s s' : LS} {h h' : Nat → Nat → Int} {f f' e e' : Nat → Int} {W W' : WayL}
theorem QL.below (q : QL w lab A p v n t s K h f e W) (hb : Below w.heap.size w w') : QL w' lab A p v n t s K h f e W :=
  ⟨q.an.below hb, q.inv, (hb.block _ q.blk.lt).trans q.blk, q.lp, q.qr.below hb⟩
theorem QL.turn (q : QL w lab A p v n t s K h f e W) (hA : LN w' lab' A' n t s') (hI : LInv n t s') (hF : AF lab w lab' w') : QL w' lab' A' p v n t s' K h f e W :=
  ⟨hA, hI, (hF.block q.blk.lt q.lp).trans q.blk, hF.free q.blk.lt q.lp, q.qr.same (fun b hb hlt => hF.block hlt hb.1) hF.size fun b hb hlt => ⟨hF.free hlt hb.1, hb.2⟩⟩
theorem LN.far_same (h : LN w lab A n t s) (hs : ∀ b, lab b ≠ [] → w'.heap[b]? = w.heap[b]?) (hz : w.heap.size ≤ w'.heap.size) : LN w' lab A n t s := h.same (fun b _ hl => hs b hl) hz
theorem QL.put (q : QL w lab A p v n t s K h f e W) {B : Nat} (hv : QR (fun b => B ≤ b) w v' n t K' h' f' e' W') (hB : p < B) (hl : ∀ b, B ≤ b → lab b = []) : QL (w.setRow p v') lab A p v' n t s K' h' f' e' W' :=
  ⟨q.an.far_same (fun b hb => setRow_other _ _ _ _ fun eb => hb (by rw [eb]; exact q.lp)) (by rw [setRow_size]; exact Nat.le_refl _), q.inv, setRow_heap _ _ _ _ _ _ q.blk, q.lp,
    hv.same (fun b hb _ => setRow_other _ _ _ _ (by omega)) (by rw [setRow_size]; exact Nat.le_refl _) fun b hb _ => ⟨hl b hb, by omega⟩⟩
/-- A cell of the copy's turned, in a block from B on. -/
theorem QL.cell (q : QL w lab A p v n t s K h f e W) {B : Nat} {a : Addr} {x : Value} (hv : QR (fun b => B ≤ b) (w.setCell a x) v n t K' h' f' e' W') (hB : p < B) (ha : B ≤ a.block) (hl : ∀ b, B ≤ b → lab b = []) : QL (w.setCell a x) lab A p v n t s K' h' f' e' W' :=
  ⟨q.an.far_same (fun b hb => Below.heap_setCell _ _ _ _ fun eb => hb (by rw [eb]; exact hl _ ha)) (by rw [size_setCell]; exact Nat.le_refl _), q.inv, (Below.heap_setCell _ _ _ _ (by omega)).trans q.blk, q.lp,
    hv.same (fun b hb _ => rfl) (Nat.le_refl _) fun b hb _ => ⟨hl b hb, by omega⟩⟩
theorem SynL.len (y : SynL n s K h f e W) (hI : LInv n t s) (h8 : n ≤ 8) : W.length ≤ 1280 := ways_len h8 y.mem fun a b ha hb => by rw [← y.way]; exact hI.few a b ha hb
theorem SynL.near (y : SynL n s K h f e W) (a b : Int) : nearE n K a b = nearE n s.K a b := by rw [y.K]
theorem SynL.sendE (y : SynL n s K h f e W) (a b : Int) : qSendE n K W a b = s.sendE n a b := by
  unfold qSendE LS.sendE
  rw [y.way, y.K]
theorem SynL.takeE (y : SynL n s K h f e W) (a b : Int) : qTakeE n K W a b = s.takeE n a b := by
  unfold qTakeE LS.takeE
  rw [y.way, y.K]
theorem SynL.put (y : SynL n s K h f e W) {a b : Nat} (ha : a < n) (hb : b < n) : SynL n (s.put a b) K h f e (W ++ [(a, b, f a)]) := by
  refine ⟨y.K, y.h, y.f, y.e, fun x z => ?_, fun q hq => ?_⟩
  · show (if x = a ∧ z = b then s.q a b ++ [s.f a] else s.q x z) = _
    rw [onWay_snoc]
    by_cases hc : x = a ∧ z = b
    · rw [if_pos hc, if_pos ⟨hc.1.symm, hc.2.symm⟩, hc.1, hc.2, y.way, y.f]
    · rw [if_neg hc, if_neg (fun h' => hc ⟨h'.1.symm, h'.2.symm⟩), y.way]
  · rcases List.mem_append.1 hq with h1 | h1
    · exact y.mem q h1
    · simp at h1
      subst h1
      exact ⟨ha, hb⟩
theorem SynL.come (y : SynL n s K h f e W) (a b : Nat) : SynL n (s.come a b) K (fun p q => if p = b ∧ q = a then (onWay W a b).headD 0 else h p q) f e (dropW a b W) := by
  refine ⟨y.K, ?_, y.f, y.e, fun x z => ?_, fun q hq => y.mem q (drop_mem _ hq)⟩
  · funext p q
    show _ = if p = b ∧ q = a then s.first a b else s.h p q
    unfold LS.first
    rw [y.way, y.h]
  · show (if x = a ∧ z = b then (s.q a b).tail else s.q x z) = _
    by_cases hc : x = a ∧ z = b
    · rw [if_pos hc, hc.1, hc.2, onWay_drop, y.way]
    · rw [if_neg hc, onWay_drop_other hc, y.way]
theorem SynL.new_is (y : SynL n s K h f e W) (i : Nat) : newQ n t K h e i = s.newF n t i := by
  unfold newQ LS.newF LS.nexts
  rw [y.K, y.h, y.e]
  rfl
theorem SynL.nexts_is (y : SynL n s K h f e W) (i : Nat) : pickL (nxB n t K h e i) n = s.nexts n t i := by
  unfold LS.nexts
  rw [y.K, y.h, y.e]
  rfl
theorem SynL.anew (y : SynL n s K h f e W) (i : Nat) : SynL n (s.anew n t i) K h (if i = t then f else upd f i (newQ n t K h e i)) (if i = t then e else upd e i (min (e i) (newQ n t K h e i))) W := by
  unfold LS.anew
  by_cases hc : i = t
  · rw [if_pos hc, if_pos hc, if_pos hc]; exact y
  · rw [if_neg hc, if_neg hc, if_neg hc, y.new_is]
    exact ⟨y.K, y.h, by rw [y.f], by rw [y.e], y.way, y.mem⟩
theorem SynL.dear1 (y : SynL n s K h f e W) (a b : Nat) (c : Int) : SynL n (s.dear1 a b c) (fun p q => if p = a ∧ q = b then c else K p q) h f e W :=
  ⟨by rw [y.K]; rfl, y.h, y.f, y.e, y.way, y.mem⟩
theorem SynL.new : SynL n (LS.new t K) K (fun _ _ => 16) (startF t) (startF t) [] := ⟨rfl, rfl, rfl, rfl, fun _ _ => rfl, fun q hq => by cases hq⟩
theorem SynL.nonneg (y : SynL n s K h f e W) (hI : LInv n t s) : ∀ q, q ∈ W → 0 ≤ q.2.2 := fun q hq => by
  obtain ⟨h1, h2⟩ := y.mem q hq
  have hx : q.2.2 ∈ onWay W q.1 q.2.1 := by
    unfold onWay
    exact List.mem_map.2 ⟨q, List.mem_filter.2 ⟨hq, decide_eq_true ⟨rfl, rfl⟩⟩, rfl⟩
  rw [← y.way] at hx
  exact (hI.way0 h1 h2 hx).1
theorem sendQ_c (s : LS) (n : Nat) (a b : Int) : (s.send n a b).c ≤ s.c + 1 := by
  unfold LS.send
  split
  · exact Nat.le_refl _
  · omega
theorem anewQ_c (s : LS) (n t i : Nat) : (s.anew n t i).c = s.c := by
  unfold LS.anew
  split <;> rfl
theorem takeQ_c (s : LS) (n t : Nat) (a b : Int) : (s.take n t a b).c ≤ s.c + 1 := by
  unfold LS.take
  split
  · rw [anewQ_c]; exact Nat.le_refl _
  · omega
theorem costQ_c (s : LS) (n t : Nat) (a b c : Int) : (s.cost n t a b c).c ≤ s.c + 1 := by
  unfold LS.cost
  split
  · rw [anewQ_c, anewQ_c]; exact Nat.le_succ _
  · omega
/-- What a net's value tells of how far node i is, and the least of it. -/
theorem QR.farAt2 {P : Nat → Prop} {x0 x1 x2 x3 : Value} {aF aL : Addr} {m m2 cF cL : Nat} (q : QR P w #[x0, x1, x2, x3, .slice (some aF) m cF, .slice (some aL) m2 cL] n t K h f e W) {i : Nat} (hi : i < n) : w.cell? (aF.add i) = some (.int .i64 (f i)) ∧ w.cell? (aL.add i) = some (.int .i64 (e i)) := by
  obtain ⟨AC, cC, AW, cW, AH, cH, AG, cG, AL, cL, hv, -, -, -, -, hF, hE⟩ := q
  simp only [Array.mk.injEq, List.cons.injEq, Value.slice.injEq, Option.some.injEq, and_true] at hv
  obtain ⟨-, -, -, -, ⟨h1, -⟩, ⟨h2, -⟩⟩ := hv
  obtain ⟨ad, e1, -, -, hc⟩ := hF i hi
  obtain ⟨ad2, e2, -, -, hc2⟩ := hE i hi
  injection e1 with e1
  injection e2 with e2
  rw [h1, h2, e1, e2]
  exact ⟨hc, hc2⟩
end

end Go.Proofs.YtminfghiejgieaaDoor


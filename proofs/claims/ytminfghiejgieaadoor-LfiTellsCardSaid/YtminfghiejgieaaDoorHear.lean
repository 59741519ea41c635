/- One by one, on the way: plain laws of what nodes think of one node t. -/
import Derived.Test.YtminfghiejgieaaDoorLineMath
namespace Go.Proofs.YtminfghiejgieaaDoor
set_option linter.unusedVariables false

/-- What node b thinks of what it heard of the first r nodes. -/
def hearF (K : Nat → Nat → Int) (h : Nat → Int) (b : Nat) : Nat → Int
  | 0 => 16
  | k + 1 => if k ≠ b ∧ K b k < 16 then min (hearF K h b k) (K b k + h k) else hearF K h b k

section
variable {n t : Nat} {K : Nat → Nat → Int} {h h' : Nat → Int} {b : Nat}
theorem hear_le (b : Nat) : ∀ r, hearF K h b r ≤ 16
  | 0 => Int.le_refl _
  | r + 1 => by
    have := hear_le b r
    unfold hearF
    split <;> omega
theorem hear_low {k : Nat} (h1 : k ≠ b) (h2 : K b k < 16) : ∀ r, k < r → hearF K h b r ≤ K b k + h k
  | 0, hk => absurd hk (by omega)
  | r + 1, hk => by
    unfold hearF
    by_cases e : k = r
    · subst e
      rw [if_pos ⟨h1, h2⟩]; omega
    · have ih := hear_low h1 h2 r (by omega)
      split <;> omega
theorem hear_is (b : Nat) : ∀ r, hearF K h b r = 16 ∨ ∃ k, k < r ∧ k ≠ b ∧ K b k < 16 ∧ hearF K h b r = K b k + h k
  | 0 => .inl rfl
  | r + 1 => by
    have ih : hearF K h b r = 16 ∨ ∃ k, k < r + 1 ∧ k ≠ b ∧ K b k < 16 ∧ hearF K h b r = K b k + h k := by
      rcases hear_is b r with e | ⟨k, hk, e⟩
      · exact .inl e
      · exact .inr ⟨k, by omega, e⟩
    unfold hearF
    split
    · rename_i hc
      rcases Int.le_total (hearF K h b r) (K b r + h r) with hle | hle
      · rw [Int.min_eq_left hle]; exact ih
      · rw [Int.min_eq_right hle]; exact .inr ⟨r, by omega, hc.1, hc.2, rfl⟩
    · exact ih
theorem hear_mono (b : Nat) : ∀ r, (∀ k, k < r → h k ≤ h' k) → hearF K h b r ≤ hearF K h' b r
  | 0, _ => Int.le_refl _
  | r + 1, hh => by
    have ih := hear_mono b r fun k hk => hh k (by omega)
    have := hh r (by omega)
    unfold hearF
    split <;> omega
theorem hear_congr (b : Nat) : ∀ r, (∀ k, k < r → h k = h' k) → hearF K h b r = hearF K h' b r
  | 0, _ => rfl
  | r + 1, hh => by
    unfold hearF
    rw [hear_congr b r fun k hk => hh k (by omega), hh r (by omega)]
theorem hear_nonneg (hK : CostM n K) (hb : b < n) : ∀ r, r ≤ n → (∀ k, k < r → 0 ≤ h k) → 0 ≤ hearF K h b r
  | 0, _, _ => by show (0 : Int) ≤ 16; omega
  | r + 1, hr, hh => by
    have ih := hear_nonneg hK hb r (by omega) fun k hk => hh k (by omega)
    have h1 := hK.nonneg hb (show r < n by omega)
    have h2 := hh r (by omega)
    unfold hearF
    split <;> omega
end

/-- What is thought, heard, and on each way. -/
structure AS where
  f : Nat → Int
  h : Nat → Nat → Int
  q : Nat → Nat → List Int

/-- 0: both are nodes, and neighbours. -/
def nearE (n : Nat) (K : Nat → Nat → Int) (a b : Int) : Int :=
  if a < 0 ∨ n ≤ a ∨ b < 0 ∨ n ≤ b then 1 else if a = b ∨ K a.toNat b.toNat = 16 then 2 else 0

def AS.sendE (s : AS) (n : Nat) (K : Nat → Nat → Int) (a b : Int) : Int :=
  if nearE n K a b = 0 ∧ 20 ≤ (s.q a.toNat b.toNat).length then 4 else nearE n K a b
def AS.takeE (s : AS) (n : Nat) (K : Nat → Nat → Int) (a b : Int) : Int :=
  if nearE n K a b = 0 ∧ (s.q a.toNat b.toNat).length = 0 then 2 else nearE n K a b

/-- A thought on its way. -/
def AS.put (s : AS) (a b : Nat) : AS := { s with q := fun x y => if x = a ∧ y = b then s.q a b ++ [s.f a] else s.q x y }
/-- What is first on a way. -/
def AS.first (s : AS) (a b : Nat) : Int := (s.q a b).headD 0
/-- It has come. -/
def AS.come (s : AS) (a b : Nat) : AS := { s with q := fun x y => if x = a ∧ y = b then (s.q a b).tail else s.q x y, h := fun x y => if x = b ∧ y = a then s.first a b else s.h x y }
def AS.think (s : AS) (n t : Nat) (K : Nat → Nat → Int) (b : Nat) : AS := { s with f := fun i => if i = b ∧ b ≠ t then hearF K (s.h b) b n else s.f i }

def AS.send (s : AS) (n : Nat) (K : Nat → Nat → Int) (a b : Int) : AS := if s.sendE n K a b = 0 then s.put a.toNat b.toNat else s
def AS.take (s : AS) (n t : Nat) (K : Nat → Nat → Int) (a b : Int) : AS := if s.takeE n K a b = 0 then (s.come a.toNat b.toNat).think n t K b.toNat else s

/-- In the beginning. -/
def AS.new (t : Nat) : AS := ⟨startF t, fun _ _ => 16, fun _ _ => []⟩

theorem near_zero {n : Nat} {K : Nat → Nat → Int} {a b : Int} (h : nearE n K a b = 0) : ∃ x y : Nat, a = x ∧ b = y ∧ x < n ∧ y < n ∧ x ≠ y ∧ K x y ≠ 16 := by
  unfold nearE at h
  split at h
  · omega
  · split at h
    · omega
    · rename_i h1 h2
      have h3 : ¬ a = b ∧ ¬ K a.toNat b.toNat = 16 := ⟨fun e => h2 (.inl e), fun e => h2 (.inr e)⟩
      exact ⟨a.toNat, b.toNat, by omega, by omega, by omega, by omega, by omega, h3.2⟩
theorem near_nat {n : Nat} {K : Nat → Nat → Int} {x y : Nat} (hx : x < n) (hy : y < n) (hne : x ≠ y) (hk : K x y ≠ 16) : nearE n K x y = 0 := by
  unfold nearE
  rw [if_neg (by omega), if_neg (by
    rintro (e | e)
    · omega
    · exact hk e)]

section
variable {n t : Nat} {K : Nat → Nat → Int} {D : Nat → Int} {s : AS} {a b : Int}
theorem send_zero (h : s.sendE n K a b = 0) : nearE n K a b = 0 ∧ (s.q a.toNat b.toNat).length < 20 := by
  unfold AS.sendE at h
  split at h
  · omega
  · rename_i hc
    exact ⟨h, by
      rcases Nat.lt_or_ge (s.q a.toNat b.toNat).length 20 with h' | h'
      · exact h'
      · exact absurd ⟨h, h'⟩ hc⟩
theorem take_zero (h : s.takeE n K a b = 0) : nearE n K a b = 0 ∧ 0 < (s.q a.toNat b.toNat).length := by
  unfold AS.takeE at h
  split at h
  · omega
  · rename_i hc
    exact ⟨h, by
      rcases Nat.eq_zero_or_pos (s.q a.toNat b.toNat).length with h' | h'
      · exact absurd ⟨h, h'⟩ hc
      · exact h'⟩
/-- What the node's thoughts on a way are: they fall, none is too near. -/
structure AInv (n t : Nat) (K : Nat → Nat → Int) (D : Nat → Int) (s : AS) : Prop where
  self : s.f t = 0
  think : ∀ b, b < n → b ≠ t → s.f b = hearF K (s.h b) b n
  chain : ∀ a b, a < n → b < n → (s.h b a :: (s.q a b ++ [s.f a])).Pairwise (· ≥ ·)
  low : ∀ a, a < n → D a ≤ s.f a
  most : ∀ a b, a < n → b < n → s.h b a ≤ 16
  few : ∀ a b, a < n → b < n → (s.q a b).length ≤ 20

theorem AInv.f16 (hI : AInv n t K D s) {a : Nat} (ha : a < n) : s.f a ≤ 16 := by
  have := hI.chain a a ha ha
  have h1 := hI.most a a ha ha
  rw [List.pairwise_cons] at this
  have := this.1 (s.f a) (by simp)
  omega
theorem AInv.heard (hI : AInv n t K D s) {a b : Nat} (ha : a < n) (hb : b < n) : s.f a ≤ s.h b a := by
  have := hI.chain a b ha hb
  rw [List.pairwise_cons] at this
  exact this.1 (s.f a) (by simp)
theorem AInv.way (hI : AInv n t K D s) {a b : Nat} (ha : a < n) (hb : b < n) {x : Int} (hx : x ∈ s.q a b) : s.f a ≤ x ∧ x ≤ s.h b a := by
  have := hI.chain a b ha hb
  rw [List.pairwise_cons] at this
  refine ⟨?_, this.1 x (by simp [hx])⟩
  have h2 := (List.pairwise_append.1 this.2).2.2 x hx (s.f a) (by simp)
  exact h2

theorem AInv.new (hK : CostM n K) (hD : RoundK n t K D D) : AInv n t K D (AS.new t) where
  self := by unfold AS.new startF; simp
  think b hb hne := by
    show startF t b = hearF K (fun _ => 16) b n
    unfold startF
    rw [if_neg hne]
    rcases hear_is (K := K) (h := fun _ => 16) b n with e | ⟨k, hk, h1, h2, h3⟩
    · exact e.symm
    · have := hK.nonneg hb hk
      have := hear_le (K := K) (h := fun _ => 16) b n
      omega
  chain a b ha hb := by
    show [16, startF t a].Pairwise (· ≥ ·)
    have := (startF_ranged t n a ha).2
    simp [this]
  low a ha := (hD a ha).1
  most a b ha hb := Int.le_refl _
  few a b ha hb := Nat.zero_le _

theorem AInv.send (hI : AInv n t K D s) (a b : Int) : AInv n t K D (s.send n K a b) := by
  unfold AS.send
  split
  · rename_i h
    obtain ⟨h1, h2⟩ := send_zero h
    obtain ⟨x, y, rfl, rfl, hx, hy, hne, hk⟩ := near_zero h1
    have e1 : ((x : Int)).toNat = x := by omega
    have e2 : ((y : Int)).toNat = y := by omega
    rw [e1, e2] at h2 ⊢
    refine ⟨hI.self, hI.think, fun a b ha hb => ?_, hI.low, hI.most, fun a b ha hb => ?_⟩
    · have hc := hI.chain a b ha hb
      show (s.h b a :: ((if a = x ∧ b = y then s.q x y ++ [s.f x] else s.q a b) ++ [s.f a])).Pairwise (· ≥ ·)
      split
      · rename_i e
        obtain ⟨rfl, rfl⟩ := e
        rw [← List.cons_append] at hc ⊢
        rw [← List.cons_append, List.pairwise_append]
        refine ⟨hc, by simp, fun p hp q hq => ?_⟩
        simp at hq
        subst hq
        rw [List.pairwise_append] at hc
        rw [List.mem_append] at hp
        rcases hp with hp | hp
        · exact hc.2.2 p hp _ (by simp)
        · simp at hp; omega
      · exact hc
    · have := hI.few a b ha hb
      show (if a = x ∧ b = y then s.q x y ++ [s.f x] else s.q a b).length ≤ 20
      split
      · simp; omega
      · exact this
  · exact hI

theorem AInv.take (hK : CostM n K) (hD : RoundK n t K D D) (hI : AInv n t K D s) (a b : Int) : AInv n t K D (s.take n t K a b) ∧ ∀ i, i < n → (s.take n t K a b).f i ≤ s.f i := by
  unfold AS.take
  split
  · rename_i h
    obtain ⟨h1, h2⟩ := take_zero h
    obtain ⟨x, y, rfl, rfl, hx, hy, hne, hk⟩ := near_zero h1
    have e1 : ((x : Int)).toNat = x := by omega
    have e2 : ((y : Int)).toNat = y := by omega
    rw [e1, e2] at h2 ⊢
    obtain ⟨d, l, hq⟩ : ∃ d l, s.q x y = d :: l := by
      cases hq : s.q x y with
      | nil => rw [hq] at h2; simp at h2
      | cons d l => exact ⟨d, l, rfl⟩
    have hfirst : s.first x y = d := by unfold AS.first; rw [hq]; rfl
    obtain ⟨hd1, hd2⟩ := hI.way hx hy (x := d) (by rw [hq]; simp)
    -- what was heard has not risen
    have hle : ∀ p q, p < n → q < n → (s.come x y).h p q ≤ s.h p q := fun p q hp hq => by
      show (if p = y ∧ q = x then s.first x y else s.h p q) ≤ s.h p q
      split
      · rename_i e
        obtain ⟨rfl, rfl⟩ := e
        rw [hfirst]; exact hd2
      · exact Int.le_refl _
    have hge : ∀ p q, p < n → q < n → D q ≤ (s.come x y).h p q := fun p q hp hq' => by
      show D q ≤ (if p = y ∧ q = x then s.first x y else s.h p q)
      split
      · rename_i e
        obtain ⟨rfl, rfl⟩ := e
        rw [hfirst]; have := hI.low q hq'; omega
      · have := hI.low q hq'; have := hI.heard hq' hp; omega
    have hfall : ∀ i, i < n → ((s.come x y).think n t K y).f i ≤ s.f i := fun i hi => by
      show (if i = y ∧ y ≠ t then hearF K ((s.come x y).h y) y n else s.f i) ≤ s.f i
      split
      · rename_i e
        obtain ⟨rfl, e2⟩ := e
        rw [hI.think i hi e2]
        exact hear_mono i n fun k hk => hle i k hi hk
      · exact Int.le_refl _
    refine ⟨⟨?_, fun b hb hbt => ?_, fun a b ha hb => ?_, fun a ha => ?_, fun a b ha hb => ?_, fun a b ha hb => ?_⟩, hfall⟩
    · show (if t = y ∧ y ≠ t then hearF K ((s.come x y).h y) y n else s.f t) = 0
      rw [if_neg (fun e => e.2 e.1.symm)]
      exact hI.self
    · show (if b = y ∧ y ≠ t then hearF K ((s.come x y).h y) y n else s.f b) = hearF K ((s.come x y).h b) b n
      by_cases e : b = y
      · subst e
        rw [if_pos ⟨rfl, hbt⟩]
      · rw [if_neg (fun h => e h.1), hI.think b hb hbt]
        refine hear_congr b n fun k hk => ?_
        show s.h b k = (if b = y ∧ k = x then s.first x y else s.h b k)
        rw [if_neg (fun h => e h.1)]
    · have hc := hI.chain a b ha hb
      have hfa := hfall a ha
      have hbase : ((s.come x y).h b a :: ((s.come x y).q a b ++ [s.f a])).Pairwise (· ≥ ·) := by
        show ((if b = y ∧ a = x then s.first x y else s.h b a) :: ((if a = x ∧ b = y then (s.q x y).tail else s.q a b) ++ [s.f a])).Pairwise (· ≥ ·)
        by_cases e : a = x ∧ b = y
        · obtain ⟨rfl, rfl⟩ := e
          rw [if_pos ⟨rfl, rfl⟩, if_pos ⟨rfl, rfl⟩, hfirst, hq]
          rw [hq] at hc
          simp only [List.tail_cons]
          exact (List.pairwise_cons.1 hc).2
        · rw [if_neg (fun h => e ⟨h.2, h.1⟩), if_neg e]
          exact hc
      show ((s.come x y).h b a :: ((s.come x y).q a b ++ [((s.come x y).think n t K y).f a])).Pairwise (· ≥ ·)
      rw [← List.cons_append, List.pairwise_append] at hbase ⊢
      refine ⟨hbase.1, by simp, fun p hp q hq => ?_⟩
      simp at hq
      subst hq
      have := hbase.2.2 p hp _ (List.mem_singleton.2 rfl)
      omega
    · show D a ≤ (if a = y ∧ y ≠ t then hearF K ((s.come x y).h y) y n else s.f a)
      split
      · rename_i e
        obtain ⟨rfl, e2⟩ := e
        rcases hear_is (K := K) (h := (s.come x a).h a) a n with e | ⟨k, hk, h1, h2, h3⟩
        · rw [e]; have := (hD a ha).1; have := (startF_ranged t n a ha).2; omega
        · rw [h3]
          have := (hD a ha).2.1 k hk h1 h2
          have := hge a k ha hk
          omega
      · exact hI.low a ha
    · have := hle b a hb ha
      have := hI.most a b ha hb
      show (s.come x y).h b a ≤ 16
      omega
    · have := hI.few a b ha hb
      show (if a = x ∧ b = y then (s.q x y).tail else s.q a b).length ≤ 20
      split
      · rename_i e
        obtain ⟨rfl, rfl⟩ := e
        rw [List.length_tail]; omega
      · exact this
  · exact ⟨hI, fun i _ => Int.le_refl _⟩
end

/-- The last that b has heard of a, or that is on its way there. -/
def AS.newest (s : AS) (a b : Nat) : Int := (s.q a b).getLast?.getD (s.h b a)

section
variable {n t : Nat} {K : Nat → Nat → Int} {D X : Nat → Int} {s : AS}
theorem AInv.newest_le (hI : AInv n t K D s) {a b : Nat} (ha : a < n) (hb : b < n) : s.f a ≤ s.newest a b ∧ s.newest a b ≤ 16 := by
  unfold AS.newest
  have hm := hI.most a b ha hb
  cases hq : (s.q a b).getLast? with
  | none => exact ⟨hI.heard ha hb, hm⟩
  | some x =>
    have hx : x ∈ s.q a b := List.mem_of_getLast? hq
    obtain ⟨h1, h2⟩ := hI.way ha hb hx
    exact ⟨h1, by show x ≤ 16; omega⟩
theorem newest_put (s : AS) (a b : Nat) : (s.put a b).newest a b = s.f a := by
  unfold AS.newest AS.put
  simp
theorem newest_put_other (s : AS) {a b x y : Nat} (h : ¬ (x = a ∧ y = b)) : (s.put a b).newest x y = s.newest x y := by
  unfold AS.newest AS.put
  simp [h]
theorem newest_come (s : AS) (a b : Nat) (h : 0 < (s.q a b).length) (x y : Nat) : (s.come a b).newest x y = s.newest x y := by
  by_cases e : x = a ∧ y = b
  · obtain ⟨rfl, rfl⟩ := e
    unfold AS.newest AS.come AS.first
    cases hq : s.q x y with
    | nil => rw [hq] at h; simp at h
    | cons d l =>
      simp only [and_self, if_true, List.tail_cons, List.headD_cons]
      cases l with
      | nil => rfl
      | cons d' l' => rw [List.getLast?_cons_cons]; rw [List.getLast?_eq_some_getLast (by simp)]; rfl
  · have e' : ¬ (y = b ∧ x = a) := fun h => e ⟨h.2, h.1⟩
    unfold AS.newest AS.come
    simp [e, e']
theorem newest_think (s : AS) (b x y : Nat) : (s.think n t K b).newest x y = s.newest x y := rfl
theorem newest_take (s : AS) (a b : Int) (x y : Nat) : (s.take n t K a b).newest x y = s.newest x y := by
  unfold AS.take
  split
  · rename_i h
    rw [newest_think, newest_come _ _ _ (take_zero h).2]
  · rfl
theorem newest_send (hI : AInv n t K D s) (a b : Int) {x y : Nat} (hx : x < n) (hy : y < n) : (s.send n K a b).newest x y ≤ s.newest x y := by
  unfold AS.send
  split
  · by_cases e : x = a.toNat ∧ y = b.toNat
    · obtain ⟨rfl, rfl⟩ := e
      rw [newest_put]
      exact (hI.newest_le hx hy).1
    · rw [newest_put_other _ e]; exact Int.le_refl _
  · exact Int.le_refl _
theorem send_f (s : AS) (n : Nat) (K : Nat → Nat → Int) (a b : Int) : (s.send n K a b).f = s.f := by
  unfold AS.send; split <;> rfl
theorem send_newest {a b : Nat} (ha : a < n) (hb : b < n) (hne : a ≠ b) (hk : K a b ≠ 16) (hq : (s.q a b).length < 20) : (s.send n K a b).newest a b = s.f a := by
  unfold AS.send
  rw [if_pos]
  · exact newest_put s a b
  · unfold AS.sendE
    rw [near_nat ha hb hne hk]
    simp
    omega
theorem send_q {a b : Nat} (x y : Nat) (s : AS) (n : Nat) (K : Nat → Nat → Int) (h : ¬ (x = a ∧ y = b)) : (s.send n K a b).q x y = s.q x y := by
  unfold AS.send
  split
  · show (if x = ((a : Int)).toNat ∧ y = ((b : Int)).toNat then _ else s.q x y) = s.q x y
    rw [if_neg (by omega)]
  · rfl
theorem send_len (s : AS) (n : Nat) (K : Nat → Nat → Int) (a b : Nat) : ((s.send n K a b).q a b).length ≤ (s.q a b).length + 1 := by
  unfold AS.send
  split
  · show (if a = ((a : Int)).toNat ∧ b = ((b : Int)).toNat then s.q ((a : Int)).toNat ((b : Int)).toNat ++ [_] else s.q a b).length ≤ _
    simp
  · omega
theorem take_q {a b : Nat} (x y : Nat) (s : AS) (h : ¬ (x = a ∧ y = b)) : (s.take n t K a b).q x y = s.q x y := by
  unfold AS.take
  split
  · show (if x = ((a : Int)).toNat ∧ y = ((b : Int)).toNat then _ else s.q x y) = s.q x y
    rw [if_neg (by omega)]
  · rfl
theorem take_tail {a b : Nat} (ha : a < n) (hb : b < n) (hne : a ≠ b) (hk : K a b ≠ 16) (s : AS) : ((s.take n t K a b).q a b).length = (s.q a b).length - 1 := by
  unfold AS.take
  split
  · show (if a = ((a : Int)).toNat ∧ b = ((b : Int)).toNat then (s.q ((a : Int)).toNat ((b : Int)).toNat).tail else s.q a b).length = _
    simp
  · rename_i h
    unfold AS.takeE at h
    rw [near_nat ha hb hne hk] at h
    simp at h
    rw [h]; rfl

/-- All that waited has come. -/
theorem AInv.drained (hI : AInv n t K D s) (hX : ∀ a b, a < n → b < n → a ≠ b → K a b ≠ 16 → s.q a b = [] ∧ s.newest a b ≤ X a) (hX0 : ∀ i, i < n → 0 ≤ X i) (hK : CostM n K) {Y : Nat → Int} (hR : RoundK n t K X Y) : ∀ i, i < n → s.f i ≤ Y i := fun i hi => by
  by_cases e : i = t
  · subst e
    rw [hI.self]
    rcases (hR i hi).2.2 with h | ⟨k, hk, hne, h16, h⟩
    · rw [h]; unfold startF; simp
    · rw [h]
      have := hK.nonneg hi hk
      have := hX0 k hk
      omega
  · rw [hI.think i hi e]
    rcases (hR i hi).2.2 with h | ⟨k, hk, hne, h16, h⟩
    · rw [h]; unfold startF; rw [if_neg e]; exact hear_le i n
    · rw [h]
      have h1 := hear_low (h := s.h i) hne h16 n hk
      obtain ⟨h2, h3⟩ := hX k i hk hi hne (by rw [hK.back k i hk hi]; omega)
      unfold AS.newest at h3
      rw [h2] at h3
      simp at h3
      omega
end

end Go.Proofs.YtminfghiejgieaaDoor

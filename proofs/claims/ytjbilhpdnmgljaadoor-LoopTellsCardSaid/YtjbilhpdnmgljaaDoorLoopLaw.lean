/- Plain laws for the statements about loops. -/
import Derived.Test.YtjbilhpdnmgljaaDoorLoopMath
import Derived.Test.YtjbilhpdnmgljaaDoorPick
namespace Go.Proofs.YtjbilhpdnmgljaaDoor
set_option linter.unusedVariables false

section
variable {n : Nat} {s : Nat → Int}
theorem itN_times {v k : Nat} (e : itN s v k = v) : ∀ m, itN s v (m * k) = v
  | 0 => by rw [Nat.zero_mul]; rfl
  | m + 1 => by
    rw [Nat.succ_mul, Nat.add_comm, itN_from e]
    exact itN_times e m

/-- Two of the first n + 1 places are the same. -/
theorem itN_twice (hs : OkN n s) {i : Nat} (hi : i < n) (hp : ∀ k, k ≤ n → 0 ≤ itN s i k) : ∃ j k, j < k ∧ k ≤ n ∧ itN s i j = itN s i k := by
  refine Classical.byContradiction fun hno => ?_
  have := pigeon n (n + 1) (fun b => (itN s i b).toNat) (fun b hb => ?_) fun b c hb hc e => ?_
  · omega
  · have h1 := itN_lt hs hi b
    have h2 := hp b (by omega)
    show (itN s i b).toNat < n
    omega
  · have h2 := hp b (by omega)
    have h3 := hp c (by omega)
    have e : (itN s i b).toNat = (itN s i c).toNat := e
    have e2 : itN s i b = itN s i c := by omega
    rcases Nat.lt_trichotomy b c with h | h | h
    · exact absurd ⟨b, c, h, by omega, e2⟩ hno
    · exact h
    · exact absurd ⟨c, b, h, by omega, e2.symm⟩ hno

/-- Who comes back does so within n steps. -/
theorem OnC.short (hs : OkN n s) {v : Nat} (hv : v < n) (h : OnC s v) : ∃ k, 1 ≤ k ∧ k ≤ n ∧ itN s v k = v := by
  obtain ⟨j, k, hjk, hk, e⟩ := itN_twice hs hv (fun k _ => h.pos k)
  obtain ⟨M, hM, eM⟩ := h.many j
  refine ⟨k - j, by omega, by omega, ?_⟩
  have h1 := itN_again e (M - j)
  rw [show j + (M - j) = M by omega, show k + (M - j) = M + (k - j) by omega, itN_from eM, eM] at h1
  exact h1.symm

theorem OnC.step {v a : Nat} (h : OnC s v) (e : s v = a) : OnC s a := by
  obtain ⟨k, hk, ek⟩ := h
  refine ⟨k, hk, ?_⟩
  have h1 : itN s v 1 = a := (itN_succ (itN_zero s v)).trans e
  rw [← itN_from h1, Nat.add_comm, itN_from ek]
  exact h1
theorem OnC.next {v : Nat} (hs : OkN n s) (hv : v < n) (h : OnC s v) : ∃ a : Nat, s v = a ∧ a < n ∧ OnC s a := by
  have h1 : itN s v 1 = s v := itN_succ (itN_zero s v)
  have h2 := h.pos 1
  have h3 := itN_lt hs hv 1
  refine ⟨(s v).toNat, by omega, by omega, h.step (by omega)⟩
/-- One in it ahead. -/
theorem OnC.prev {v : Nat} (hs : OkN n s) (hv : v < n) (h : OnC s v) : ∃ u : Nat, u < n ∧ OnC s u ∧ s u = v := by
  obtain ⟨k, hk, e⟩ := h
  have h2 := OnC.pos ⟨k, hk, e⟩ (k - 1)
  have h3 := itN_lt hs hv (k - 1)
  obtain ⟨u, hu⟩ : ∃ u : Nat, itN s v (k - 1) = u := ⟨(itN s v (k - 1)).toNat, by omega⟩
  have h4 := itN_succ hu
  rw [show k - 1 + 1 = k by omega, e] at h4
  refine ⟨u, by omega, ⟨k, hk, ?_⟩, h4.symm⟩
  rw [← itN_from hu, show k - 1 + k = k + (k - 1) by omega, itN_from e]
  exact hu
theorem OnC.prev_one {u u' v : Nat} (h : OnC s u) (h' : OnC s u') (e : s u = v) (e' : s u' = v) : u = u' := by
  obtain ⟨k, hk, ek⟩ := h
  obtain ⟨k', hk', ek'⟩ := h'
  have h1 := itN_times ek k'
  have h2 := itN_times ek' k
  have hm : 1 ≤ k' * k := Nat.mul_le_mul hk' hk
  have a1 : itN s u 1 = v := (itN_succ (itN_zero s u)).trans e
  have a2 : itN s u' 1 = v := (itN_succ (itN_zero s u')).trans e'
  rw [show k' * k = 1 + (k' * k - 1) by omega, itN_from a1] at h1
  rw [Nat.mul_comm, show k' * k = 1 + (k' * k - 1) by omega, itN_from a2, h1] at h2
  omega
/-- Who never comes out comes to one. -/
theorem never_on (hs : OkN n s) {i : Nat} (hi : i < n) (h : 0 ≤ itN s i n) : ∃ a : Nat, itN s i n = a ∧ a < n ∧ OnC s a := by
  have hp : ∀ k, k ≤ n → 0 ≤ itN s i k := fun k hk => by
    refine Classical.byContradiction fun hn => ?_
    have := itN_neg (s := s) (i := i) (k := k) (by omega) (n - k)
    rw [show k + (n - k) = n by omega] at this
    omega
  obtain ⟨j, k, hjk, hk, e⟩ := itN_twice hs hi hp
  have h3 := itN_lt hs hi n
  obtain ⟨a, ha⟩ : ∃ a : Nat, itN s i n = a := ⟨(itN s i n).toNat, by omega⟩
  refine ⟨a, ha, by omega, k - j, by omega, ?_⟩
  have h1 := itN_again e (n - j)
  rw [show j + (n - j) = n by omega, show k + (n - j) = n + (k - j) by omega, itN_from ha, ha] at h1
  exact h1.symm
/-- The least number of steps to none. -/
theorem deep_least {i : Nat} (h : itN s i n < 0) : ∃ d, d ≤ n ∧ itN s i d < 0 ∧ ∀ j, j < d → 0 ≤ itN s i j := by
  rcases first_not (fun j => 0 ≤ itN s i j) (n + 1) with hall | ⟨d, hd, hj, hb⟩
  · exact absurd (hall n (by omega)) (by omega)
  · exact ⟨d, by omega, by omega, hj⟩
end

section
variable {p : Nat → Bool} {r : Nat}
theorem pickL_at {j : Nat} (hj : j < (pickL p r).length) : ∃ v : Nat, atL (pickL p r) j = v ∧ v < r ∧ p v = true := by
  have h : atL (pickL p r) j ∈ pickL p r := atL_mem.1 ⟨j, hj, rfl⟩
  have h2 := h
  unfold pickL at h2
  simp only [List.mem_map] at h2
  obtain ⟨v, -, e⟩ := h2
  have e : (v : Int) = atL (pickL p r) j := e
  rw [← e] at h
  exact ⟨v, e.symm, pickL_mem.1 h⟩
theorem pickL_has {v : Nat} (hv : v < r) (hp : p v = true) : ∃ j, j < (pickL p r).length ∧ atL (pickL p r) j = v := atL_mem.2 (pickL_mem.2 ⟨hv, hp⟩)
theorem pickL_once {j k : Nat} (hj : j < (pickL p r).length) (hk : k < (pickL p r).length) (e : atL (pickL p r) j = atL (pickL p r) k) : j = k := by
  have hs : (pickL p r).Pairwise (· < ·) := by
    unfold pickL
    rw [List.pairwise_map]
    exact ((List.pairwise_lt_range).filter _).imp fun h => by omega
  have hlt : ∀ a b (ha : a < (pickL p r).length) (hb : b < (pickL p r).length), a < b → atL (pickL p r) a < atL (pickL p r) b := fun a b ha hb hab => by
    unfold atL
    rw [List.getD_eq_getElem?_getD, List.getD_eq_getElem?_getD, List.getElem?_eq_getElem ha, List.getElem?_eq_getElem hb]
    exact List.pairwise_iff_getElem.1 hs a b ha hb hab
  rcases Nat.lt_trichotomy j k with h | h | h
  · have := hlt j k hj hk h; omega
  · exact h
  · have := hlt k j hk hj h; omega
end

end Go.Proofs.YtjbilhpdnmgljaaDoor

/- Who comes back: plain laws of next ones. -/
import Derived.Test.YtlemmphnmklbeaaTraceMath
namespace Go.Proofs.Ytlemmphnmklbeaa
set_option linter.unusedVariables false

/-- Each next one is a node, or none. -/
def OkN (n : Nat) (s : Nat → Int) : Prop := ∀ i, i < n → -1 ≤ s i ∧ s i < n

/-- Where i is behind k steps (below 0 it stays). -/
def itN (s : Nat → Int) (i k : Nat) : Int := posT (fun a _ => s a) i 0 k

/-- It comes back. -/
def OnC (s : Nat → Int) (v : Nat) : Prop := ∃ k, 1 ≤ k ∧ itN s v k = v

section
variable {n : Nat} {s : Nat → Int} {i : Nat}
theorem itN_zero (s : Nat → Int) (i : Nat) : itN s i 0 = i := rfl
theorem itN_succ {k a : Nat} (h : itN s i k = a) : itN s i (k + 1) = s a := by
  show (if itN s i k < 0 then itN s i k else s (itN s i k).toNat) = s a
  rw [h, if_neg (by omega), Int.toNat_natCast]
theorem itN_neg {k : Nat} (h : itN s i k < 0) : ∀ c, itN s i (k + c) = itN s i k
  | 0 => rfl
  | c + 1 => by
    have ih := itN_neg h c
    show (if itN s i (k + c) < 0 then itN s i (k + c) else s (itN s i (k + c)).toNat) = itN s i k
    rw [ih, if_pos h]
theorem itN_lt (hs : OkN n s) (hi : i < n) : ∀ k, -1 ≤ itN s i k ∧ itN s i k < n
  | 0 => by rw [itN_zero]; omega
  | k + 1 => by
    have ih := itN_lt hs hi k
    show -1 ≤ (if itN s i k < 0 then itN s i k else s (itN s i k).toNat) ∧ (if itN s i k < 0 then itN s i k else s (itN s i k).toNat) < n
    by_cases h : itN s i k < 0
    · rw [if_pos h]; exact ih
    · rw [if_neg h]; exact hs _ (by omega)
theorem itN_again {j k : Nat} (h : itN s i j = itN s i k) (c : Nat) : itN s i (j + c) = itN s i (k + c) := by
  induction c with
  | zero => exact h
  | succ c ih =>
    show (if itN s i (j + c) < 0 then itN s i (j + c) else s (itN s i (j + c)).toNat) = if itN s i (k + c) < 0 then itN s i (k + c) else s (itN s i (k + c)).toNat
    rw [ih]
theorem itN_from {k a : Nat} (h : itN s i k = a) (c : Nat) : itN s i (k + c) = itN s a c := by
  induction c with
  | zero => rw [itN_zero]; exact h
  | succ c ih =>
    show (if itN s i (k + c) < 0 then itN s i (k + c) else s (itN s i (k + c)).toNat) = if itN s a c < 0 then itN s a c else s (itN s a c).toNat
    rw [ih]
/-- Who comes back once does so as often as one likes. -/
theorem OnC.many {v : Nat} (h : OnC s v) (m : Nat) : ∃ k, m ≤ k ∧ itN s v k = v := by
  obtain ⟨k, hk, e⟩ := h
  refine ⟨m * k, Nat.le_mul_of_pos_right m hk, ?_⟩
  induction m with
  | zero => rw [Nat.zero_mul]; rfl
  | succ m ih =>
    rw [Nat.succ_mul, Nat.add_comm, itN_from e]
    exact ih
theorem OnC.pos {v : Nat} (h : OnC s v) (k : Nat) : 0 ≤ itN s v k := by
  refine Classical.byContradiction fun hn => ?_
  obtain ⟨m, hm, e⟩ := h.many k
  have h1 := itN_neg (s := s) (i := v) (k := k) (by omega) (m - k)
  rw [show k + (m - k) = m by omega, e] at h1
  omega
end

/-- What is so ahead of the round from i. -/
structure LoopI (n : Nat) (s : Nat → Int) (i : Nat) (M : Nat → Int) (O : Nat → Bool) : Prop where
  rng : ∀ v, v < n → 0 ≤ M v ∧ M v ≤ i
  shut : ∀ v, v < n → M v ≠ 0 → ∀ a : Nat, s v = a → M a ≠ 0
  met : ∀ v, v < i → v < n → M v ≠ 0
  on : ∀ v, v < n → (O v = true ↔ (OnC s v ∧ M v ≠ 0))

/-- What is so behind j steps of the first walk from i. -/
structure LoopA (n : Nat) (s : Nat → Int) (i : Nat) (M : Nat → Int) (j : Nat) (M' : Nat → Int) : Prop where
  pos : ∀ b, b < j → ∃ a : Nat, itN s i b = a ∧ a < n ∧ M a = 0
  once : ∀ b c, b < c → c < j → itN s i b ≠ itN s i c
  val : ∀ v, v < n → (M' v = M v ∧ ∀ b, b < j → itN s i b ≠ v) ∨ (M' v = i + 1 ∧ M v = 0 ∧ ∃ b, b < j ∧ itN s i b = v)

section
variable {n : Nat} {s : Nat → Int} {i j : Nat} {M M' : Nat → Int} {O : Nat → Bool}
theorem LoopI.start (n : Nat) (s : Nat → Int) : LoopI n s 0 (fun _ => 0) (fun _ => false) :=
  ⟨fun v _ => ⟨Int.le_refl _, Int.le_refl _⟩, fun v _ h => absurd rfl h, fun v h => absurd h (by omega), fun v _ => ⟨(fun h => by cases h), fun h => absurd rfl h.2⟩⟩
theorem LoopA.start (n : Nat) (s : Nat → Int) (i : Nat) (M : Nat → Int) : LoopA n s i M 0 M :=
  ⟨fun b h => absurd h (by omega), fun b c _ h => absurd h (by omega), fun v _ => .inl ⟨rfl, fun b h => absurd h (by omega)⟩⟩
theorem LoopA.few (h : LoopA n s i M j M') : j ≤ n := by
  refine pigeon n j (fun b => (itN s i b).toNat) (fun b hb => ?_) fun b c hb hc e => ?_
  · obtain ⟨a, ha, hlt, -⟩ := h.pos b hb
    show (itN s i b).toNat < n
    omega
  · obtain ⟨a, ha, -⟩ := h.pos b hb
    obtain ⟨a', ha', -⟩ := h.pos c hc
    have e : (itN s i b).toNat = (itN s i c).toNat := e
    have e2 : itN s i b = itN s i c := by omega
    rcases Nat.lt_trichotomy b c with hlt | he | hlt
    · exact absurd e2 (h.once b c hlt hc)
    · exact he
    · exact absurd e2.symm (h.once c b hlt hb)
/-- One step more. -/
theorem LoopA.next (h : LoopA n s i M j M') {a : Nat} (ha : itN s i j = a) (han : a < n) (h0 : M' a = 0) : LoopA n s i M (j + 1) (fun v => if v = a then (i : Int) + 1 else M' v) := by
  have hva := h.val a han
  have hM : M a = 0 ∧ ∀ b, b < j → itN s i b ≠ a := by
    rcases hva with ⟨e, hn⟩ | ⟨e, -, -⟩
    · exact ⟨by omega, hn⟩
    · omega
  refine ⟨fun b hb => ?_, fun b c hbc hc => ?_, fun v hv => ?_⟩
  · rcases Nat.lt_or_ge b j with hlt | hge
    · exact h.pos b hlt
    · obtain rfl : b = j := by omega
      exact ⟨a, ha, han, hM.1⟩
  · rcases Nat.lt_or_ge c j with hlt | hge
    · exact h.once b c hbc hlt
    · obtain rfl : c = j := by omega
      rw [ha]
      exact hM.2 b hbc
  · by_cases e : v = a
    · subst e
      exact .inr ⟨if_pos rfl, hM.1, j, by omega, ha⟩
    · simp only [if_neg e]
      rcases h.val v hv with ⟨e1, e2⟩ | ⟨e1, e2, b, hb, e3⟩
      · refine .inl ⟨e1, fun b hb => ?_⟩
        rcases Nat.lt_or_ge b j with hlt | hge
        · exact e2 b hlt
        · obtain rfl : b = j := by omega
          rw [ha]
          exact fun e' => e (by omega)
      · exact .inr ⟨e1, e2, b, by omega, e3⟩

theorem LoopI.reach (h : LoopI n s i M O) (hs : OkN n s) {x : Nat} (hx : x < n) (hM : M x ≠ 0) : ∀ k a : Nat, itN s x k = a → M a ≠ 0
  | 0, a, e => by
    rw [itN_zero] at e
    have : x = a := by omega
    subst this
    exact hM
  | k + 1, a, e => by
    by_cases h0 : itN s x k < 0
    · have := itN_neg h0 1
      rw [this] at e
      omega
    · obtain ⟨b, hb⟩ : ∃ b : Nat, itN s x k = b := ⟨(itN s x k).toNat, by omega⟩
      have hbn := (itN_lt hs hx k).2
      have ih := h.reach hs hx hM k b hb
      rw [itN_succ hb] at e
      exact h.shut b (by omega) ih a e

/-- The first walk's end, in what concerns the marks. -/
theorem LoopA.marks (h : LoopI n s i M O) (hA : LoopA n s i M j M') (hi : i < n) (hend : itN s i j < 0 ∨ ∃ a : Nat, itN s i j = a ∧ M' a ≠ 0) :
    (∀ v, v < n → 0 ≤ M' v ∧ M' v ≤ (i : Int) + 1) ∧ (∀ v, v < n → M' v ≠ 0 → ∀ a : Nat, s v = a → a < n → M' a ≠ 0) ∧ ∀ v, v < i + 1 → v < n → M' v ≠ 0 := by
  have hge : ∀ v, v < n → M v ≠ 0 → M' v ≠ 0 := fun v hv hm => by
    rcases hA.val v hv with ⟨e, -⟩ | ⟨e, -, -⟩
    · rw [e]; exact hm
    · rw [e]; omega
  refine ⟨fun v hv => ?_, fun v hv hm a ha han => ?_, fun v hv hvn => ?_⟩
  · have := h.rng v hv
    rcases hA.val v hv with ⟨e, -⟩ | ⟨e, -, -⟩ <;> rw [e] <;> omega
  · rcases hA.val v hv with ⟨e, -⟩ | ⟨-, -, b, hb, e⟩
    · rw [e] at hm
      exact hge a han (h.shut v hv hm a ha)
    · have h1 := itN_succ e
      rw [ha] at h1
      rcases Nat.lt_or_ge (b + 1) j with hlt | hge'
      · rcases hA.val a han with ⟨-, hn⟩ | ⟨e', -, -⟩
        · exact absurd h1 (hn (b + 1) hlt)
        · rw [e']; omega
      · obtain rfl : j = b + 1 := by omega
        rcases hend with hneg | ⟨a', ha', hm'⟩
        · omega
        · have : a' = a := by omega
          subst this
          exact hm'
  · rcases Nat.lt_or_ge v i with hlt | hge'
    · exact hge v hvn (h.met v hlt hvn)
    · obtain rfl : v = i := by omega
      cases j with
      | zero =>
        rcases hend with hneg | ⟨a', ha', hm'⟩
        · rw [itN_zero] at hneg; omega
        · rw [itN_zero] at ha'
          have : a' = v := by omega
          subst this
          exact hm'
      | succ j =>
        rcases hA.val v hvn with ⟨-, hn⟩ | ⟨e', -, -⟩
        · exact absurd (itN_zero s v) (hn 0 (by omega))
        · rw [e']; omega

/-- The walk has left, or has come to where others have been: none of the new ones comes back. -/
theorem LoopA.plain (h : LoopI n s i M O) (hs : OkN n s) (hA : LoopA n s i M j M') (hi : i < n) (hend : itN s i j < 0 ∨ ∃ a : Nat, itN s i j = a ∧ M' a ≠ 0 ∧ M' a ≠ (i : Int) + 1) : LoopI n s (i + 1) M' O := by
  obtain ⟨h1, h2, h3⟩ := hA.marks h hi (hend.imp id fun ⟨a, ha, hm, _⟩ => ⟨a, ha, hm⟩)
  have hno : ∀ b, b < j → ∀ v : Nat, itN s i b = v → ¬ OnC s v := by
    intro b hb v hv hc
    rcases hend with hneg | ⟨a, ha, hm, hm1⟩
    · have := hc.pos (j - b)
      rw [← itN_from hv, show b + (j - b) = j by omega] at this
      omega
    · have han : a < n := by have := (itN_lt hs hi j).2; omega
      have hMa : M a ≠ 0 := by
        rcases hA.val a han with ⟨e, -⟩ | ⟨e, -, -⟩
        · rw [← e]; exact hm
        · exact absurd e hm1
      obtain ⟨m, hm', e⟩ := hc.many (j - b)
      have e1 : itN s a (m - (j - b)) = v := by
        rw [← itN_from ha, show j + (m - (j - b)) = b + m by omega, itN_from hv]
        exact e
      have := h.reach hs han hMa _ v e1
      obtain ⟨a', ha', _, h0⟩ := hA.pos b hb
      have : a' = v := by omega
      subst this
      contradiction
  refine ⟨fun v hv => by have := h1 v hv; omega, fun v hv hm a ha => ?_, h3, fun v hv => ?_⟩
  · exact h2 v hv hm a ha (by have := (hs v hv).2; omega)
  · rw [h.on v hv]
    rcases hA.val v hv with ⟨e, -⟩ | ⟨e, e0, b, hb, eb⟩
    · rw [e]
    · constructor
      · rintro ⟨_, hm⟩; exact absurd e0 hm
      · rintro ⟨hc, _⟩; exact absurd hc (hno b hb v eb)

/-- The walk has come to where it was: where that was, and that the marks tell it. -/
theorem LoopA.turn (h : LoopI n s i M O) (hA : LoopA n s i M j M') {a : Nat} (ha : itN s i j = a) (han : a < n) (hm : M' a = (i : Int) + 1) : ∃ l, l < j ∧ itN s i l = a := by
  rcases hA.val a han with ⟨e, -⟩ | ⟨-, -, b, hb, e⟩
  · have := h.rng a han
    omega
  · exact ⟨b, hb, e⟩

/-- The way round: each later place is one of it. -/
theorem itN_round {l : Nat} (hl : l < j) (e : itN s i l = itN s i j) : ∀ t, l ≤ t → ∃ b, l ≤ b ∧ b < j ∧ itN s i t = itN s i b := by
  intro t
  induction t using Nat.strongRecOn with
  | _ t ih =>
    intro ht
    rcases Nat.lt_or_ge t j with hlt | hge
    · exact ⟨t, ht, hlt, rfl⟩
    · obtain ⟨b, h1, h2, h3⟩ := ih (l + (t - j)) (by omega) (by omega)
      refine ⟨b, h1, h2, ?_⟩
      rw [← h3]
      have := itN_again e (t - j)
      rw [this, show j + (t - j) = t by omega]

/-- Those of the way round are marked; all is as it should. -/
theorem LoopA.round (h : LoopI n s i M O) (hs : OkN n s) (hA : LoopA n s i M j M') (hi : i < n) {l : Nat} (hl : l < j) (e : itN s i l = itN s i j) {O' : Nat → Bool}
    (hO : ∀ v, v < n → (O' v = true ↔ (O v = true ∨ ∃ b, l ≤ b ∧ b < j ∧ itN s i b = v))) : LoopI n s (i + 1) M' O' := by
  obtain ⟨a, ha, han, ha0⟩ := hA.pos l hl
  have hm' : ∀ b, b < j → ∀ v : Nat, itN s i b = v → v < n → M' v = (i : Int) + 1 := fun b hb v hv hvn => by
    rcases hA.val v hvn with ⟨-, hn⟩ | ⟨e, -, -⟩
    · exact absurd hv (hn b hb)
    · exact e
  obtain ⟨h1, h2, h3⟩ := hA.marks h hi (.inr ⟨a, e ▸ ha, by rw [hm' l hl a ha han]; omega⟩)
  refine ⟨fun v hv => by have := h1 v hv; omega, fun v hv hm a ha => h2 v hv hm a ha (by have := (hs v hv).2; omega), h3, fun v hv => ?_⟩
  rw [hO v hv, h.on v hv]
  constructor
  · rintro (⟨hc, hm⟩ | ⟨b, hb1, hb2, hb⟩)
    · refine ⟨hc, ?_⟩
      rcases hA.val v hv with ⟨e', -⟩ | ⟨e', e0, -⟩
      · rw [e']; exact hm
      · exact absurd e0 hm
    · refine ⟨⟨j - l, by omega, ?_⟩, by rw [hm' b hb2 v hb hv]; omega⟩
      rw [← itN_from hb]
      have := itN_again e (b - l)
      rw [show l + (b - l) = b by omega, show j + (b - l) = b + (j - l) by omega] at this
      rw [← this]
      exact hb
  · rintro ⟨hc, hm⟩
    rcases hA.val v hv with ⟨e', -⟩ | ⟨-, e0, b, hb, eb⟩
    · exact .inl ⟨hc, by rw [← e']; exact hm⟩
    · right
      rcases Nat.lt_or_ge b l with hlt | hge
      · obtain ⟨m, hml, em⟩ := hc.many (l - b)
        rw [← itN_from eb] at em
        obtain ⟨b', h4, h5, h6⟩ := itN_round hl e (b + m) (by omega)
        rw [em, ← eb] at h6
        exact absurd h6 (hA.once b b' (by omega) h5)
      · exact ⟨b, hge, hb, eb⟩

theorem LoopI.done (h : LoopI n s n M O) : ∀ v, v < n → (O v = true ↔ OnC s v) := fun v hv => by
  rw [h.on v hv]
  exact ⟨fun h => h.1, fun hc => ⟨hc, h.met v hv hv⟩⟩
end

end Go.Proofs.Ytlemmphnmklbeaa

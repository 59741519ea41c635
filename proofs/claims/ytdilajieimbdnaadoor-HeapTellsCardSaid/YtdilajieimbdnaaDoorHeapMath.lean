/- Heaps, plainly: the tree as a function of the place, where each thing is; what a rise and a fall keep. -/
import Derived.Test.YtdilajieimbdnaaDoorTouch
import Derived.Test.YtdilajieimbdnaaDoorPlain
namespace Go.Proofs.YtdilajieimbdnaaDoor
set_option linter.unusedVariables false

/-- i stands ahead of k. -/
def AheadP (key : Nat → Int) (i k : Nat) : Prop := key i < key k ∨ key i = key k ∧ i < k

theorem AheadP.asymm {key : Nat → Int} {i k : Nat} (h : AheadP key i k) : ¬ AheadP key k i := by unfold AheadP at *; omega
theorem AheadP.trans {key : Nat → Int} {i j k : Nat} (h : AheadP key i j) (h' : AheadP key j k) : AheadP key i k := by unfold AheadP at *; omega
theorem notAhead_trans {key : Nat → Int} {i j k : Nat} (h : ¬ AheadP key i j) (h' : ¬ AheadP key j k) : ¬ AheadP key i k := by unfold AheadP at *; omega
theorem notAhead_of {key : Nat → Int} {i j k : Nat} (h : AheadP key i j) (h' : ¬ AheadP key k j) : ¬ AheadP key k i := by unfold AheadP at *; omega
theorem notAhead_of' {key : Nat → Int} {i j k : Nat} (h : AheadP key i j) (h' : ¬ AheadP key k i) : ¬ AheadP key k j ∨ AheadP key k j := Classical.em _ |>.symm
theorem notAhead_refl {key : Nat → Int} {i : Nat} : ¬ AheadP key i i := by unfold AheadP; omega

structure Bij (N m : Nat) (T : Nat → Nat) (at_ : Nat → Int) : Prop where
  lt : ∀ p, p < m → T p < N
  pos : ∀ p, p < m → at_ (T p) = p
  inv : ∀ i, i < N → 0 ≤ at_ i → ∃ p, p < m ∧ at_ i = p ∧ T p = i

theorem Bij.inj {N m : Nat} {T : Nat → Nat} {at_ : Nat → Int} (h : Bij N m T at_) {p q : Nat} (hp : p < m) (hq : q < m) (e : T p = T q) : p = q := by
  have h1 := h.pos p hp
  have h2 := h.pos q hq
  rw [e] at h1
  omega

theorem Bij.le {N m : Nat} {T : Nat → Nat} {at_ : Nat → Int} (h : Bij N m T at_) : m ≤ N := pigeon N m T h.lt fun p q hp hq e => h.inj hp hq e

def Ok (key : Nat → Int) (T : Nat → Nat) (q : Nat) : Prop := ¬ AheadP key (T q) (T ((q - 1) / 2))
def Ordered (key : Nat → Int) (m : Nat) (T : Nat → Nat) : Prop := ∀ q, 0 < q → q < m → Ok key T q
def Under (key : Nat → Int) (m : Nat) (T : Nat → Nat) (p : Nat) : Prop := ∀ c, 0 < c → c < m → (c - 1) / 2 = p → 0 < p → ¬ AheadP key (T c) (T ((p - 1) / 2))
def Hole (key : Nat → Int) (m : Nat) (T : Nat → Nat) (p : Nat) : Prop := (∀ q, 0 < q → q < m → q ≠ p → (q - 1) / 2 ≠ p → Ok key T q) ∧ Under key m T p
def Sink (key : Nat → Int) (m : Nat) (T : Nat → Nat) (p : Nat) : Prop := (∀ q, 0 < q → q < m → (q - 1) / 2 ≠ p → Ok key T q) ∧ Under key m T p

def swapT (T : Nat → Nat) (p q : Nat) : Nat → Nat := upd (upd T p (T q)) q (T p)
def swapA (at_ : Nat → Int) (T : Nat → Nat) (p q : Nat) : Nat → Int := upd (upd at_ (T q) p) (T p) q

theorem swapT_at {T : Nat → Nat} {p q : Nat} (hpq : p ≠ q) : swapT T p q p = T q := by
  unfold swapT; rw [upd_other _ _ hpq, upd_same]
theorem swapT_at' {T : Nat → Nat} {p q : Nat} : swapT T p q q = T p := by
  unfold swapT; rw [upd_same]
theorem swapT_off {T : Nat → Nat} {p q s : Nat} (h1 : s ≠ p) (h2 : s ≠ q) : swapT T p q s = T s := by
  unfold swapT; rw [upd_other _ _ h2, upd_other _ _ h1]

theorem Bij.swap {N m : Nat} {T : Nat → Nat} {at_ : Nat → Int} (h : Bij N m T at_) {p q : Nat} (hp : p < m) (hq : q < m) (hpq : p ≠ q) : Bij N m (swapT T p q) (swapA at_ T p q) := by
  have hne : T p ≠ T q := fun e => hpq (h.inj hp hq e)
  refine ⟨fun s hs => ?_, fun s hs => ?_, fun i hi h0 => ?_⟩
  · by_cases h1 : s = p
    · subst h1; rw [swapT_at hpq]; exact h.lt _ hq
    · by_cases h2 : s = q
      · subst h2; rw [swapT_at']; exact h.lt _ hp
      · rw [swapT_off h1 h2]; exact h.lt _ hs
  · by_cases h1 : s = p
    · subst h1; rw [swapT_at hpq]; unfold swapA; rw [upd_other _ _ (fun e => hne e.symm), upd_same]
    · by_cases h2 : s = q
      · subst h2; rw [swapT_at']; unfold swapA; rw [upd_same]
      · rw [swapT_off h1 h2]; unfold swapA
        rw [upd_other _ _ (fun e => h1 (h.inj hs hp e)), upd_other _ _ (fun e => h2 (h.inj hs hq e))]
        exact h.pos _ hs
  · unfold swapA at h0 ⊢
    by_cases h1 : i = T p
    · subst h1; rw [upd_same]; exact ⟨q, hq, rfl, swapT_at'⟩
    · rw [upd_other _ _ h1] at h0 ⊢
      by_cases h2 : i = T q
      · subst h2; rw [upd_same]; exact ⟨p, hp, rfl, swapT_at hpq⟩
      · rw [upd_other _ _ h2] at h0 ⊢
        obtain ⟨s, hs, e1, e2⟩ := h.inv i hi h0
        refine ⟨s, hs, e1, ?_⟩
        rw [swapT_off (fun e => h1 (by rw [← e2, e])) (fun e => h2 (by rw [← e2, e]))]
        exact e2

theorem par_lt {q : Nat} (h : 0 < q) : (q - 1) / 2 < q := by omega

/-- One step up. -/
theorem Hole.up {key : Nat → Int} {m : Nat} {T : Nat → Nat} {p : Nat} (h : Hole key m T p) (hp : 0 < p) (hpm : p < m) (ha : AheadP key (T p) (T ((p - 1) / 2))) : Hole key m (swapT T p ((p - 1) / 2)) ((p - 1) / 2) := by
  obtain ⟨h1, h2⟩ := h
  have hq : (p - 1) / 2 < p := par_lt hp
  generalize hqe : (p - 1) / 2 = q at *
  refine ⟨fun s s0 sm sq sp => ?_, fun c c0 cm cq q0 => ?_⟩
  · unfold Ok
    by_cases e1 : (s - 1) / 2 = p
    · have hs : p < s := by omega
      rw [e1, swapT_at (by omega), swapT_off (by omega) (by omega)]
      have := h2 s s0 sm e1 hp
      rwa [hqe] at this
    · have sp' : s ≠ p := fun e => sp (by rw [e]; exact hqe)
      rw [swapT_off sp' sq, swapT_off e1 sp]
      exact h1 s s0 sm sp' e1
  · have hqq := par_lt q0
    rw [swapT_off (s := (q - 1) / 2) (by omega) (by omega)]
    have okq : Ok key T q := h1 q q0 (by omega) (by omega) (by omega)
    by_cases e1 : c = p
    · subst e1
      rw [swapT_at (by omega)]
      exact okq
    · have cq' : c ≠ q := fun e => by omega
      rw [swapT_off e1 cq']
      have okc : Ok key T c := h1 c c0 cm e1 (by omega)
      unfold Ok at okc okq
      rw [cq] at okc
      exact notAhead_trans okc okq

theorem Hole.stop {key : Nat → Int} {m : Nat} {T : Nat → Nat} {p : Nat} (h : Hole key m T p) (hs : p = 0 ∨ Ok key T p) : Sink key m T p := by
  refine ⟨fun q q0 qm hq => ?_, h.2⟩
  by_cases e : q = p
  · subst e
    rcases hs with hs | hs
    · omega
    · exact hs
  · exact h.1 q q0 qm e hq

/-- One step down: q is a child of p that stands ahead of it, and behind no other child. -/
theorem Sink.down {key : Nat → Int} {m : Nat} {T : Nat → Nat} {p q : Nat} (h : Sink key m T p) (q0 : 0 < q) (qm : q < m) (hq : (q - 1) / 2 = p) (ha : AheadP key (T q) (T p))
    (hmin : ∀ s, 0 < s → s < m → (s - 1) / 2 = p → ¬ AheadP key (T s) (T q)) : Sink key m (swapT T p q) q := by
  obtain ⟨h1, h2⟩ := h
  have hpq : p < q := by omega
  refine ⟨fun s s0 sm sq => ?_, fun c c0 cm cq _ => ?_⟩
  · unfold Ok
    by_cases e1 : s = q
    · subst e1
      rw [hq, swapT_at', swapT_at (by omega)]
      exact ha.asymm
    · by_cases e2 : (s - 1) / 2 = p
      · rw [e2, swapT_at (by omega), swapT_off (by omega) e1]
        exact hmin s s0 sm e2
      · by_cases e3 : s = p
        · subst e3
          have := par_lt s0
          rw [swapT_at (by omega), swapT_off (by omega) (by omega)]
          exact h2 q q0 qm hq s0
        · rw [swapT_off e3 e1, swapT_off e2 sq]
          exact h1 s s0 sm e2
  · rw [hq, swapT_at (by omega), swapT_off (by omega) (by omega)]
    have := h1 c c0 cm (by omega)
    unfold Ok at this
    rwa [cq] at this

theorem Sink.stop {key : Nat → Int} {m : Nat} {T : Nat → Nat} {p : Nat} (h : Sink key m T p) (hmin : ∀ s, 0 < s → s < m → (s - 1) / 2 = p → ¬ AheadP key (T s) (T p)) : Ordered key m T := by
  intro q q0 qm
  by_cases e : (q - 1) / 2 = p
  · unfold Ok; rw [e]; exact hmin q q0 qm e
  · exact h.1 q q0 qm e

theorem Ordered.least {key : Nat → Int} {m : Nat} {T : Nat → Nat} (h : Ordered key m T) : ∀ q, q < m → ¬ AheadP key (T q) (T 0) := by
  intro q
  induction q using Nat.strongRecOn with
  | ind q ih =>
    intro hq
    by_cases e : q = 0
    · subst e; exact notAhead_refl
    · have h1 := h q (by omega) hq
      have h2 := ih ((q - 1) / 2) (by omega) (by omega)
      exact notAhead_trans h1 h2

/-! A key is put. -/
theorem Hole.put_old {N m : Nat} {T : Nat → Nat} {at_ : Nat → Int} {key : Nat → Int} (hb : Bij N m T at_) (ho : Ordered key m T) {p : Nat} (hp : p < m) (k : Int) : Hole (upd key (T p) k) m T p := by
  have off : ∀ s, s < m → s ≠ p → upd key (T p) k (T s) = key (T s) := fun s hs hne => upd_other _ _ fun e => hne (hb.inj hs hp e)
  refine ⟨fun q q0 qm qp hq => ?_, fun c c0 cm hc p0 => ?_⟩
  · have h1 := ho q q0 qm
    have := par_lt q0
    unfold Ok AheadP at *
    rw [off q qm qp, off _ (by omega) hq]
    exact h1
  · have h1 := ho c c0 cm
    have h2 := ho p p0 hp
    have := par_lt p0
    have h3 : ¬ AheadP key (T c) (T ((p - 1) / 2)) := by
      unfold Ok at h1 h2
      rw [hc] at h1
      exact notAhead_trans h1 h2
    unfold AheadP at *
    rw [off c cm (by omega), off _ (by omega) (by omega)]
    exact h3

theorem Bij.put_new {N m : Nat} {T : Nat → Nat} {at_ : Nat → Int} (hb : Bij N m T at_) {i : Nat} (hi : i < N) (hat : at_ i < 0) : Bij N (m + 1) (upd T m i) (upd at_ i m) := by
  have hne : ∀ s, s < m → T s ≠ i := fun s hs e => by have := hb.pos s hs; rw [e] at this; omega
  refine ⟨fun s hs => ?_, fun s hs => ?_, fun j hj h0 => ?_⟩
  · by_cases e : s = m
    · subst e; rw [upd_same]; exact hi
    · rw [upd_other _ _ e]; exact hb.lt s (by omega)
  · by_cases e : s = m
    · subst e; rw [upd_same, upd_same]
    · rw [upd_other _ _ e, upd_other _ _ (hne s (by omega))]; exact hb.pos s (by omega)
  · by_cases e : j = i
    · subst e; rw [upd_same]; exact ⟨m, by omega, rfl, upd_same _ _ _⟩
    · rw [upd_other _ _ e] at h0 ⊢
      obtain ⟨p, hp, e1, e2⟩ := hb.inv j hj h0
      exact ⟨p, by omega, e1, by rw [upd_other _ _ (by omega)]; exact e2⟩

theorem Hole.put_new {N m : Nat} {T : Nat → Nat} {at_ : Nat → Int} {key : Nat → Int} (hb : Bij N m T at_) (ho : Ordered key m T) {i : Nat} (hat : at_ i < 0) (k : Int) : Hole (upd key i k) (m + 1) (upd T m i) m := by
  have hne : ∀ s, s < m → T s ≠ i := fun s hs e => by have := hb.pos s hs; rw [e] at this; omega
  refine ⟨fun q q0 qm qp hq => ?_, fun c c0 cm hc p0 => by omega⟩
  have := par_lt q0
  have h1 := ho q q0 (by omega)
  unfold Ok AheadP at *
  rw [upd_other _ _ qp, upd_other _ _ hq, upd_other _ _ (hne q (by omega)), upd_other _ _ (hne _ (by omega))]
  exact h1

/-! A thing is dropped. -/
theorem Bij.drop_last {N m : Nat} {T : Nat → Nat} {at_ : Nat → Int} (hb : Bij N (m + 1) T at_) : Bij N m T (upd at_ (T m) (-1)) := by
  have hne : ∀ s, s < m → T s ≠ T m := fun s hs e => by have := hb.inj (by omega) (by omega) e; omega
  refine ⟨fun s hs => hb.lt s (by omega), fun s hs => ?_, fun j hj h0 => ?_⟩
  · rw [upd_other _ _ (hne s hs)]; exact hb.pos s (by omega)
  · by_cases e : j = T m
    · subst e; rw [upd_same] at h0; omega
    · rw [upd_other _ _ e] at h0 ⊢
      obtain ⟨p, hp, e1, e2⟩ := hb.inv j hj h0
      exact ⟨p, by
        have : p ≠ m := fun h => e (by rw [← e2, h])
        omega, e1, e2⟩

theorem Ordered.less {key : Nat → Int} {m : Nat} {T : Nat → Nat} (ho : Ordered key (m + 1) T) : Ordered key m T := fun q q0 qm => ho q q0 (by omega)

theorem Bij.drop_mid {N m : Nat} {T : Nat → Nat} {at_ : Nat → Int} (hb : Bij N (m + 1) T at_) {p : Nat} (hp : p < m) : Bij N m (upd T p (T m)) (upd (upd at_ (T p) (-1)) (T m) p) := by
  have hpm : T m ≠ T p := fun e => by have := hb.inj (by omega) (by omega) e; omega
  refine ⟨fun s hs => ?_, fun s hs => ?_, fun j hj h0 => ?_⟩
  · by_cases e : s = p
    · subst e; rw [upd_same]; exact hb.lt _ (by omega)
    · rw [upd_other _ _ e]; exact hb.lt _ (by omega)
  · by_cases e : s = p
    · subst e; rw [upd_same, upd_same]
    · rw [upd_other _ _ e, upd_other _ _ (fun h => by have := hb.inj (by omega) (by omega) h; omega), upd_other _ _ (fun h => e (hb.inj (by omega) (by omega) h))]
      exact hb.pos s (by omega)
  · by_cases e : j = T m
    · subst e; rw [upd_same]; exact ⟨p, hp, rfl, upd_same _ _ _⟩
    · rw [upd_other _ _ e] at h0 ⊢
      by_cases e' : j = T p
      · subst e'; rw [upd_same] at h0; omega
      · rw [upd_other _ _ e'] at h0 ⊢
        obtain ⟨s, hs, e1, e2⟩ := hb.inv j hj h0
        refine ⟨s, ?_, e1, ?_⟩
        · have : s ≠ m := fun h => e (by rw [← e2, h])
          omega
        · rw [upd_other _ _ (fun h => e' (by rw [← e2, h]))]; exact e2

theorem Hole.drop_mid {key : Nat → Int} {m : Nat} {T : Nat → Nat} (ho : Ordered key (m + 1) T) {p : Nat} (hp : p < m) (i : Nat) : Hole key m (upd T p i) p := by
  refine ⟨fun q q0 qm qp hq => ?_, fun c c0 cm hc p0 => ?_⟩
  · have h1 := ho q q0 (by omega)
    unfold Ok at *
    rw [upd_other _ _ qp, upd_other _ _ hq]
    exact h1
  · have h1 := ho c c0 (by omega)
    have h2 := ho p p0 (by omega)
    have := par_lt p0
    unfold Ok at h1 h2
    rw [hc] at h1
    rw [upd_other _ _ (by omega), upd_other _ _ (by omega)]
    exact notAhead_trans h1 h2

end Go.Proofs.YtdilajieimbdnaaDoor

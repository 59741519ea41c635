/- TraceArrivesM: in one text: TraceMath, Len, Trace, TraceTells, Rag, TraceArr, TraceArrives. -/
import Derived.Test.YtbepfmcaolmhgaaDoorMem
import Derived.Test.YtbepfmcaolmhgaaDoorPlain
import Derived.Test.YtbepfmcaolmhgaaDoorCost
import Derived.Test.YtbepfmcaolmhgaaDoorOwnV
import Derived.Test.YtbepfmcaolmhgaaDoorInts
import Derived.Test.YtbepfmcaolmhgaaDoorErr
import Derived.Test.YtbepfmcaolmhgaaDoorTab
import Derived.Maps.AppendAt
import Derived.Test.YtbepfmcaolmhgaaDoorLineIt
import Derived.Test.YtbepfmcaolmhgaaDoorLineSettles
/- A parcel on its way: plain laws. -/
namespace Go.Proofs.YtbepfmcaolmhgaaDoor
set_option linter.unusedVariables false

/-- Where the parcel is behind so many steps. -/
def posT (f : Nat → Nat → Int) (x y : Nat) : Nat → Int
  | 0 => x
  | k + 1 => if posT f x y k < 0 then posT f x y k else f (posT f x y k).toNat y

/-- What becomes of it, from the k-th step on. -/
def trGo (p : Nat → Int) (y : Int) (t : Nat) : Nat → Nat → Except Int Nat
  | 0, _ => .error 4
  | q + 1, k => if p k = y then .ok k else if p (k + 1) < 0 then .error 2 else if t ≤ k then .error 4 else trGo p y t q (k + 1)

/-- What becomes of it. -/
def trRes (f : Nat → Nat → Int) (x y t : Nat) : Except Int Nat := trGo (posT f x y) y t (t + 1) 0

/-- A row of next ones that is right. -/
def RowOk (n : Nat) (L : Nat → Nat) (f : Nat → Nat → Int) (i : Nat) : Prop := L i = n ∧ ∀ k, k < n → -1 ≤ f i k ∧ f i k < n

/-- What is right of a parcel. -/
def ArgsOk (n : Nat) (x y t : Int) : Prop := 0 ≤ x ∧ x < n ∧ 0 ≤ y ∧ y < n ∧ 0 ≤ t ∧ t ≤ 255

def GoodT (n : Nat) (L : Nat → Nat) (f : Nat → Nat → Int) (x y t : Int) : Prop := (∀ i, i < n → RowOk n L f i) ∧ ArgsOk n x y t

/-- Row i is the first that is wrong, and so. -/
def RowBad (n : Nat) (L : Nat → Nat) (f : Nat → Nat → Int) (i : Nat) (v : Int) : Prop := (L i ≠ n ∧ v = 3) ∨ (L i = n ∧ v = 1 ∧ ∃ k, k < n ∧ (∀ j, j < k → -1 ≤ f i j ∧ f i j < n) ∧ (f i k < -1 ∨ (n : Int) ≤ f i k))

def FaultT (n : Nat) (L : Nat → Nat) (f : Nat → Nat → Int) (x y t : Int) (v : Int) : Prop :=
  (∃ i, i < n ∧ (∀ j, j < i → RowOk n L f j) ∧ RowBad n L f i v) ∨ ((∀ i, i < n → RowOk n L f i) ∧ ¬ ArgsOk n x y t ∧ v = 1)

/-- The first that is not so. -/
theorem first_not (P : Nat → Prop) : ∀ n, (∀ i, i < n → P i) ∨ ∃ i, i < n ∧ (∀ j, j < i → P j) ∧ ¬ P i
  | 0 => .inl fun i hi => absurd hi (by omega)
  | n + 1 => by
    rcases first_not P n with h | ⟨i, hi, h⟩
    · by_cases hp : P n
      · refine .inl fun i hi => ?_
        rcases Nat.lt_or_ge i n with hlt | hge
        · exact h i hlt
        · obtain rfl : i = n := by omega
          exact hp
      · exact .inr ⟨n, by omega, h, hp⟩
    · exact .inr ⟨i, by omega, h⟩

theorem trace_cases (n : Nat) (L : Nat → Nat) (f : Nat → Nat → Int) (x y t : Int) : GoodT n L f x y t ∨ ∃ v, (v = 1 ∨ v = 3) ∧ FaultT n L f x y t v := by
  rcases first_not (RowOk n L f) n with h | ⟨i, hi, hj, hb⟩
  · by_cases ha : ArgsOk n x y t
    · exact .inl ⟨h, ha⟩
    · exact .inr ⟨1, .inl rfl, .inr ⟨h, ha, rfl⟩⟩
  · by_cases hl : L i = n
    · rcases first_not (fun k => -1 ≤ f i k ∧ f i k < n) n with h' | ⟨k, hk, hk', hbk⟩
      · exact absurd ⟨hl, h'⟩ hb
      · exact .inr ⟨1, .inl rfl, .inl ⟨i, hi, hj, .inr ⟨hl, rfl, k, hk, hk', by omega⟩⟩⟩
    · exact .inr ⟨3, .inr rfl, .inl ⟨i, hi, hj, .inl ⟨hl, rfl⟩⟩⟩

section
variable {p : Nat → Int} {y : Int} {t : Nat}
theorem trGo_here {q k : Nat} (h : p k = y) : trGo p y t (q + 1) k = .ok k := by unfold trGo; rw [if_pos h]
theorem trGo_none {q k : Nat} (h : p k ≠ y) (h1 : p (k + 1) < 0) : trGo p y t (q + 1) k = .error 2 := by unfold trGo; rw [if_neg h, if_pos h1]
theorem trGo_full {q k : Nat} (h : p k ≠ y) (h1 : ¬ p (k + 1) < 0) (h2 : t ≤ k) : trGo p y t (q + 1) k = .error 4 := by unfold trGo; rw [if_neg h, if_neg h1, if_pos h2]
theorem trGo_next {q k : Nat} (h : p k ≠ y) (h1 : ¬ p (k + 1) < 0) (h2 : ¬ t ≤ k) : trGo p y t (q + 1) k = trGo p y t q (k + 1) := by
  show (if p k = y then Except.ok k else if p (k + 1) < 0 then .error 2 else if t ≤ k then .error 4 else trGo p y t q (k + 1)) = _
  rw [if_neg h, if_neg h1, if_neg h2]

/-- It comes there: it is there behind k steps, and not ahead; it never fell out. -/
theorem trGo_ok : ∀ (q k m : Nat), trGo p y t q k = .ok m → k ≤ m ∧ p m = y ∧ (∀ j, k ≤ j → j < m → p j ≠ y ∧ 0 ≤ p (j + 1)) ∧ (k ≤ t → m ≤ t)
  | 0, k, m, h => by cases h
  | q + 1, k, m, h => by
    by_cases h0 : p k = y
    · rw [trGo_here h0] at h
      injection h with h
      subst h
      exact ⟨Nat.le_refl _, h0, fun j h1 h2 => by omega, fun h => h⟩
    · by_cases h1 : p (k + 1) < 0
      · rw [trGo_none h0 h1] at h; cases h
      · by_cases h2 : t ≤ k
        · rw [trGo_full h0 h1 h2] at h; cases h
        · rw [trGo_next h0 h1 h2] at h
          obtain ⟨a, b, c, d⟩ := trGo_ok q (k + 1) m h
          refine ⟨by omega, b, fun j hj hjm => ?_, fun _ => d (by omega)⟩
          rcases Nat.lt_or_ge k j with hlt | hge
          · exact c j hlt hjm
          · obtain rfl : j = k := by omega
            exact ⟨h0, by omega⟩

/-- Too many steps: none of the first ones was there, none fell out. -/
theorem trGo_err4 : ∀ (q k : Nat), t + 1 ≤ q + k → k ≤ t → trGo p y t q k = .error 4 → ∀ j, k ≤ j → j ≤ t → p j ≠ y ∧ 0 ≤ p (j + 1)
  | 0, k, hq, hk, _ => by omega
  | q + 1, k, hq, hk, h => by
    by_cases h0 : p k = y
    · rw [trGo_here h0] at h; cases h
    · by_cases h1 : p (k + 1) < 0
      · rw [trGo_none h0 h1] at h
        injection h with h
        omega
      · intro j hj hjt
        by_cases h2 : t ≤ k
        · obtain rfl : j = k := by omega
          exact ⟨h0, by omega⟩
        · rw [trGo_next h0 h1 h2] at h
          rcases Nat.lt_or_ge k j with hlt | hge
          · exact trGo_err4 q (k + 1) (by omega) (by omega) h j hlt hjt
          · obtain rfl : j = k := by omega
            exact ⟨h0, by omega⟩

theorem trGo_of_ok {m : Nat} : ∀ (q k : Nat), k ≤ m → m ≤ t → t + 1 ≤ q + k → p m = y → (∀ j, k ≤ j → j < m → p j ≠ y ∧ 0 ≤ p (j + 1)) → trGo p y t q k = .ok m
  | 0, k, h1, h2, h3, _, _ => by omega
  | q + 1, k, h1, h2, h3, h4, h5 => by
    rcases Nat.lt_or_ge k m with hlt | hge
    · obtain ⟨a, b⟩ := h5 k (Nat.le_refl _) hlt
      rw [trGo_next a (by omega) (by omega)]
      exact trGo_of_ok q (k + 1) hlt h2 (by omega) h4 fun j hj hjm => h5 j (by omega) hjm
    · obtain rfl : k = m := by omega
      exact trGo_here h4

theorem trGo_of_err4 : ∀ (q k : Nat), k ≤ t → t + 1 ≤ q + k → (∀ j, k ≤ j → j ≤ t → p j ≠ y ∧ 0 ≤ p (j + 1)) → trGo p y t q k = .error 4
  | 0, k, h1, h2, _ => by omega
  | q + 1, k, h1, h2, h3 => by
    obtain ⟨a, b⟩ := h3 k (Nat.le_refl _) h1
    by_cases h : t ≤ k
    · exact trGo_full a (by omega) h
    · rw [trGo_next a (by omega) h]
      exact trGo_of_err4 q (k + 1) (by omega) (by omega) fun j hj hjt => h3 j (by omega) hjt
end

section
variable {n : Nat} {L : Nat → Nat} {f : Nat → Nat → Int} {x y : Nat}
/-- From the same place on it goes the same way. -/
theorem posT_again {i j : Nat} (h : posT f x y i = posT f x y j) : ∀ s, posT f x y (i + s) = posT f x y (j + s)
  | 0 => h
  | s + 1 => by
    have ih := posT_again h s
    show (if posT f x y (i + s) < 0 then posT f x y (i + s) else f (posT f x y (i + s)).toNat y) = if posT f x y (j + s) < 0 then posT f x y (j + s) else f (posT f x y (j + s)).toNat y
    rw [ih]

theorem posT_lt (hr : ∀ i, i < n → RowOk n L f i) (hx : x < n) (hy : y < n) : ∀ k, posT f x y k < n
  | 0 => by show (x : Int) < n; omega
  | k + 1 => by
    have ih := posT_lt hr hx hy k
    show (if posT f x y k < 0 then posT f x y k else f (posT f x y k).toNat y) < n
    by_cases h : posT f x y k < 0
    · rw [if_pos h]; omega
    · rw [if_neg h]
      exact ((hr _ (by omega)).2 y hy).2

/-- Who comes there was nowhere twice. -/
theorem posT_once {m : Nat} (hm : posT f x y m = y) (hn : ∀ j, j < m → posT f x y j ≠ y) {i j : Nat} (hij : i < j) (hj : j ≤ m) : posT f x y i ≠ posT f x y j := by
  intro e
  have h := posT_again e (m - j)
  rw [show j + (m - j) = m by omega] at h
  exact hn (i + (m - j)) (by omega) (h.trans hm)

/-- Who was not there behind as many steps as there are nodes never is. -/
theorem posT_never (hr : ∀ i, i < n → RowOk n L f i) (hx : x < n) (hy : y < n) {t : Nat} (ht : n ≤ t) (h : ∀ j, j ≤ t → posT f x y j ≠ y ∧ 0 ≤ posT f x y (j + 1)) : ∀ j, posT f x y j ≠ y ∧ 0 ≤ posT f x y (j + 1) := by
  have h0 : ∀ j, j ≤ t → 0 ≤ posT f x y j := fun j hj => by
    cases j with
    | zero => show (0 : Int) ≤ x; omega
    | succ j => exact (h j (by omega)).2
  -- two of the first n + 1 places are the same
  have hrep : ∃ i j, i < j ∧ j ≤ n ∧ posT f x y i = posT f x y j := by
    refine Classical.byContradiction fun hno => ?_
    have hp := pigeon n (n + 1) (fun k => (posT f x y k).toNat) (fun k hk => by
      have h1 := posT_lt hr hx hy k
      have h2 := h0 k (by omega)
      show (posT f x y k).toNat < n
      omega) fun i j hi hj e => by
        have h1 := h0 i (by omega)
        have h2 := h0 j (by omega)
        have e' : (posT f x y i).toNat = (posT f x y j).toNat := e
        have e2 : posT f x y i = posT f x y j := by omega
        rcases Nat.lt_trichotomy i j with hlt | he | hlt
        · exact absurd ⟨i, j, hlt, by omega, e2⟩ hno
        · exact he
        · exact absurd ⟨j, i, hlt, by omega, e2.symm⟩ hno
    omega
  obtain ⟨i, j, hij, hjn, e⟩ := hrep
  -- each later place is one of those from i to j
  have hback : ∀ N s, s ≤ N → ∃ r, r ≤ j ∧ posT f x y r = posT f x y s := by
    intro N
    induction N with
    | zero => intro s hs; exact ⟨0, by omega, by rw [show s = 0 by omega]⟩
    | succ N ih =>
      intro s hs
      rcases Nat.lt_or_ge j s with hlt | hge
      · obtain ⟨r, hr', e'⟩ := ih (i + (s - j)) (by omega)
        refine ⟨r, hr', e'.trans ?_⟩
        have := posT_again e (s - j)
        rwa [show j + (s - j) = s by omega] at this
      · exact ⟨s, hge, rfl⟩
  intro s
  obtain ⟨r, hr1, e1⟩ := hback s s (Nat.le_refl _)
  have h1 := h r (by omega)
  refine ⟨by rw [← e1]; exact h1.1, ?_⟩
  have := posT_again e1 1
  rw [← this]
  exact h1.2
end

end Go.Proofs.YtbepfmcaolmhgaaDoor

/- The walk of waywardenref1.LengthOf: what a way comes to. -/

namespace Go.Proofs.YtbepfmcaolmhgaaDoor
open Go.RowKit
set_option linter.unusedVariables false

/-- A way: nodes, each a neighbour of the one ahead. -/
def WayOk (x : Int) (m : Nat) (a b c : Nat → Int) (k : Nat) (f : Nat → Int) : Prop :=
  1 ≤ k ∧ (∀ i, i < k → 0 ≤ f i ∧ f i < x) ∧ ∀ i, i + 1 < k → costV m a b c (f i) (f (i + 1)) ≠ 0 ∧ costV m a b c (f i) (f (i + 1)) ≠ 16

/-- What a way comes to. -/
def wayLen (m : Nat) (a b c : Nat → Int) (f : Nat → Int) : Nat → Int
  | 0 => 0
  | i + 1 => wayLen m a b c f i + (if i = 0 then 0 else costV m a b c (f (i - 1)) (f i))

/-- What is told of a way. -/
def WayTold (x : Int) (m : Nat) (a b c : Nat → Int) (k : Nat) (f : Nat → Int) (s : Int) (ok : Bool) : Prop :=
  (ok = true ↔ WayOk x m a b c k f) ∧ (ok = false → s = 0) ∧ (ok = true → GoodG x m a b c → s = wayLen m a b c f k)

theorem way_no {x : Int} {m : Nat} {a b c : Nat → Int} {k : Nat} {f : Nat → Int} (h : ¬ WayOk x m a b c k f) : WayTold x m a b c k f 0 false := ⟨⟨(fun h => by cases h), fun h' => absurd h' h⟩, fun _ => rfl, fun h => by cases h⟩

theorem wayLen_ranged {x : Int} {m : Nat} {a b c : Nat → Int} {f : Nat → Int} (hg : GoodG x m a b c) {k : Nat} (hf : ∀ i, i < k → 0 ≤ f i ∧ f i < x) : ∀ i, i ≤ k → 0 ≤ wayLen m a b c f i ∧ wayLen m a b c f i ≤ 16 * i
  | 0, _ => by unfold wayLen; omega
  | i + 1, h => by
    have ih := wayLen_ranged hg hf i (by omega)
    unfold wayLen
    by_cases h0 : i = 0
    · rw [if_pos h0]; omega
    · rw [if_neg h0]
      have h1 := hf (i - 1) (by omega)
      have h2 := hf i (by omega)
      obtain ⟨p, hp⟩ : ∃ p : Nat, f (i - 1) = p := ⟨(f (i - 1)).toNat, by omega⟩
      obtain ⟨q, hq⟩ : ∃ q : Nat, f i = q := ⟨(f i).toNat, by omega⟩
      have h3 := costV_ranged hg.2.2 p q
      rw [hp, hq]
      omega

set_option maxRecDepth 100000 in
set_option maxHeartbeats 2000000 in
theorem lengthOf_walk (x : Int) (A : Option Addr) (m cp : Nat) (a b c : Nat → Int) (F : Option Addr) (k ck : Nat) (f : Nat → Int) (w : World) (hl : Lnk w A m a b c) (hm : m ≤ 9223372036854775807) (hf : Vec w F k f) (hk : k ≤ 140737488351232) :
    Calls Tryd.prog 31 #[.int .i64 x, .slice A m cp, .slice F k ck] w fun e w' => ∃ s ok, e = .returned (.tuple #[.int .i64 s, .bool ok]) ∧ WayTold x m a b c k f s ok ∧ ∃ q, w' = w.drewN q := by
  have HL := Lib.hid hl
  have HF := Lib.hid hf
  clear hl hf
  by_cases h0 : k = 0
  · subst h0
    go_enter Tryd.func31, Tryd.ntmps31
    go_wp2_with fail
    go_ret2
    exact ⟨0, false, rfl, way_no (fun h => absurd h.1 (by omega)), 0, rfl⟩
  · have hk1 : (1 : Int) ≤ k := by omega
    have hk0 : ((k : Int) == 0) = false := beq_false_of_ne (by omega)
    have hk2 : (k : Int) ≤ 140737488351232 := by omega
    go_enter Tryd.func31, Tryd.ntmps31
    go_wp2_with fail
    go_loopw [8, 9] (fun v i wr => ∃ (r : Nat) (s : Int), r ≤ k ∧ i = .int .i64 r ∧ v = .int .i64 s ∧ Hid (∀ j, j < r → 0 ≤ f j ∧ f j < x) ∧ Hid (∀ j, j + 1 < r → costV m a b c (f j) (f (j + 1)) ≠ 0 ∧ costV m a b c (f j) (f (j + 1)) ≠ 16) ∧ Hid (GoodG x m a b c → s = wayLen m a b c f r) ∧ ∃ q, wr = w.drewN q) (fun _ i _ => k - (intOf i).toNat)
    case atStart => exact ⟨0, 0, by omega, rfl, rfl, Lib.hid fun j hj => absurd hj (by omega), Lib.hid fun j hj => absurd hj (by omega), Lib.hid fun _ => rfl, 0, rfl⟩
    case round =>
      obtain ⟨r, s, hr, rfl, rfl, hin, hco, hsm, q, rfl⟩ := hrel
      have HIN := hin
      have HCO := hco
      have HSM := hsm
      clear hin hco hsm
      by_cases hlt : r < k
      · have hlt' : (r : Int) < k := by omega
        obtain ⟨fd, rfl, hfl, hfc⟩ := HF.out r hlt
        rcases (show f r < 0 ∨ (0 ≤ f r ∧ x ≤ f r) ∨ (0 ≤ f r ∧ f r < x) by omega) with hbad | hbad | hin
        · have HNO : Hid (¬ WayOk x m a b c k f) := fun h => by have := h.2.1 r hlt; omega
          go_wp2_with fail
          go_ret2
          exact ⟨0, false, rfl, way_no HNO.out, q, rfl⟩
        · have HNO : Hid (¬ WayOk x m a b c k f) := fun h => by have := h.2.1 r hlt; omega
          obtain ⟨hb0, hb1⟩ := hbad
          go_wp2_with fail
          go_ret2
          exact ⟨0, false, rfl, way_no HNO.out, q, rfl⟩
        · obtain ⟨hi0, hi1⟩ := hin
          have HIN1 : Hid (∀ j, j < r + 1 → 0 ≤ f j ∧ f j < x) := fun j hj => by
            rcases Nat.lt_or_ge j r with h | h
            · exact HIN.out j h
            · obtain rfl : j = r := by omega
              exact ⟨hi0, hi1⟩
          by_cases hr0 : r = 0
          · have hd0 : decide (0 < r) = false := decide_eq_false (by omega)
            have HR0 := Lib.hid hr0
            have HS1 : Hid (GoodG x m a b c → s = wayLen m a b c f (r + 1)) := fun hg => by
              rw [HSM.out hg]
              show _ = _ + _
              rw [if_pos HR0.out]
              omega
            clear hfl hr0
            go_wp2_with fail
            go_roundw
            case rel => exact ⟨r + 1, s, by omega, by go_num, rfl, HIN1, Lib.hid (fun j hj => absurd hj (by have := HR0.out; omega)), HS1, q, rfl⟩
            case measure => simp [intOf]; omega
          · obtain ⟨p, hrp⟩ : ∃ p, r = p + 1 := ⟨r - 1, by omega⟩
            obtain ⟨fd', e, -, hpc⟩ := HF.out p (by omega)
            injection e with e
            subst e
            obtain ⟨cv, hcv⟩ : ∃ cv, costV m a b c (f p) (f r) = cv := ⟨_, rfl⟩
            have HCV := Lib.hid hcv
            have hr1 : (0 : Int) < r := by omega
            have hp0 : (0 : Int) ≤ (r : Int) - 1 := by omega
            have hp2 : (r : Int) - 1 < k := by omega
            have hp1 : ((r : Int) - 1).toNat = p := by omega
            have HRP := Lib.hid hrp
            clear hcv hfl hr0 hrp
            go_wp2_with fail
            go_quiet ((go_at_call 17; exact quiet_adds ((costOf_walk A m cp a b c (f p) (f r) _ (HL.out.drewN _) hm cv HCV.out).mono fun _ _ h => ⟨h.1, 0, h.2⟩)))
            clear hp0 hp1 hp2
            have HCO1 : cv ≠ 0 ∧ cv ≠ 16 → Hid (∀ j, j + 1 < r + 1 → costV m a b c (f j) (f (j + 1)) ≠ 0 ∧ costV m a b c (f j) (f (j + 1)) ≠ 16) := fun h j hj => by
              rcases Nat.lt_or_ge (j + 1) r with h' | h'
              · exact HCO.out j h'
              · have e1 : j = p := by have := HRP.out; omega
                have e2 : j + 1 = r := by have := HRP.out; omega
                rw [e2, e1, HCV.out]
                exact h
            have HNO : ¬ (cv ≠ 0 ∧ cv ≠ 16) → Hid (¬ WayOk x m a b c k f) := fun h hw => by
              have h1 := hw.2.2 p (by have := HRP.out; omega)
              have e2 : p + 1 = r := HRP.out.symm
              rw [e2, HCV.out] at h1
              exact h h1
            have HS1 : Hid (GoodG x m a b c → s + cv = wayLen m a b c f (r + 1)) := fun hg => by
              rw [HSM.out hg, ← HCV.out]
              show _ = _ + _
              rw [if_neg (by have := HRP.out; omega)]
              have e : r - 1 = p := by have := HRP.out; omega
              rw [e]
            by_cases hc0 : cv = 0
            · have HN := HNO (fun h => h.1 hc0)
              subst hc0
              clear HCO1 HNO
              go_wp2_with fail
              go_ret2
              exact ⟨0, false, rfl, way_no HN.out, _, rfl⟩
            · by_cases hc1 : cv = 16
              · have HN := HNO (fun h => h.2 hc1)
                subst hc1
                clear HCO1 HNO
                go_wp2_with fail
                go_ret2
                exact ⟨0, false, rfl, way_no HN.out, _, rfl⟩
              · have HC1 := HCO1 ⟨hc0, hc1⟩
                have hd1 : (cv == 0) = false := beq_false_of_ne hc0
                have hd2 : (cv == 16) = false := beq_false_of_ne hc1
                clear hc0 hc1 HCO1 HNO
                go_wp2_with fail
                go_roundw
                case rel =>
                  refine ⟨r + 1, wrap64 (s + cv), by omega, by go_num, by go_num, HIN1, HC1, Lib.hid fun hg => ?_, _, rfl⟩
                  have h1 := wayLen_ranged hg HIN1 (r + 1) (Nat.le_refl _)
                  rw [← HS1.out hg] at h1 ⊢
                  unfold wrap64
                  omega
                case measure => simp [intOf]; omega
      · have er : r = k := by omega
        subst er
        have HOK : Hid (WayTold x m a b c r f s true) := ⟨⟨fun _ => ⟨by omega, HIN.out, HCO.out⟩, fun _ => rfl⟩, (fun h => by cases h), fun _ => HSM.out⟩
        go_wp2_with fail
        go_ret2
        exact ⟨s, true, rfl, HOK.out, q, rfl⟩

end Go.Proofs.YtbepfmcaolmhgaaDoor

/- The walks of trace.Trace, waywardenref2.TraceFault, TraceOf. -/
namespace Go.Proofs.YtbepfmcaolmhgaaDoor
open Go.RowKit
set_option linter.unusedVariables false

theorem posT_succ {f : Nat → Nat → Int} {x y k a : Nat} (h : posT f x y k = (a : Int)) : posT f x y (k + 1) = f a y := by
  show (if posT f x y k < 0 then posT f x y k else f (posT f x y k).toNat y) = f a y
  rw [h, if_neg (by omega), Int.toNat_natCast]

theorem Mat.sq_ {w : World} {A : Option Addr} {n : Nat} {L : Nat → Nat} {f : Nat → Nat → Int} (h : Mat w A n L f) (hr : ∀ i, i < n → RowOk n L f i) (i : Nat) (hi : i < n) :
    ∃ ad Ai ci, A = some ad ∧ w.cell? (ad.add i) = some (.slice (some Ai) n ci) ∧ ad.block < w.heap.size ∧ Ai.block < w.heap.size ∧ ∀ j, j < n → w.cell? (Ai.add j) = some (.int .i64 (f i j)) := by
  obtain ⟨ad, Ai, ci, rfl, hlt, hc, hv⟩ := h i hi
  rw [(hr i hi).1] at hc hv
  obtain ⟨Ai', rfl, hl, _⟩ := hv 0 (by omega)
  refine ⟨ad, Ai', ci, rfl, hc, hlt, hl, fun j hj => ?_⟩
  obtain ⟨a', e, _, hc'⟩ := hv j hj
  injection e with e
  subst e
  exact hc'

/-- One number in a slice of one. -/
theorem OwnV.one (w : World) (base : Nat) (hb : base ≤ w.heap.size) (x : Int) (f : Nat → Int) (hf : f 0 = x) : OwnV (w.alloc (.cells #[.int .i64 x] 3)) base (.slice (some ⟨w.heap.size, 0, none⟩) 1 1) 1 f := by
  refine ⟨rfl, .inr ⟨w.heap.size, 1, #[.int .i64 x], rfl, hb, heap_alloc_new w _, Nat.le_refl _, by unfold maxLen; omega, rfl, ?_⟩⟩
  show [Value.int .i64 x] = [.int .i64 (f 0)]
  rw [hf]

def lenV : Value → Nat
  | .slice _ n _ => n
  | _ => 0

set_option maxRecDepth 100000 in
set_option maxHeartbeats 4000000 in
theorem trace_fault (A : Option Addr) (n cA : Nat) (L : Nat → Nat) (f : Nat → Nat → Int) (x y t : Int) (w : World) (hm : Mat w A n L f) (hn : n ≤ 9223372036854775807) (hL : ∀ i, i < n → L i ≤ 9223372036854775807) (v : Int) (h : FaultT n L f x y t v) :
    Calls Tryd.prog 30 #[.slice A n cA, .int .i64 x, .int .i64 y, .int .i64 t] w fun e w' => e = .returned (.tuple #[.slice none 0 0, errNo v]) ∧ Below w.heap.size w w' := by
  have HM := Lib.hid hm
  obtain ⟨lim, hlim, hok, hwhat⟩ : ∃ lim, lim ≤ n ∧ (∀ j, j < lim → RowOk n L f j) ∧ ((lim < n ∧ RowBad n L f lim v) ∨ (lim = n ∧ ¬ ArgsOk n x y t ∧ v = 1)) := by
    rcases h with ⟨i, hi, hj, hb⟩ | ⟨h1, h2, h3⟩
    · exact ⟨i, by omega, hj, .inl ⟨hi, hb⟩⟩
    · exact ⟨n, Nat.le_refl _, h1, .inr ⟨rfl, h2, h3⟩⟩
  have HOK := Lib.hid hok
  have HW := Lib.hid hwhat
  have HLL := Lib.hid hL
  clear hm h hok hwhat hL
  go_enter Tryd.func30, Tryd.ntmps30
  go_wp2_with fail
  go_loopw [20] (fun i wr => ∃ r : Nat, r ≤ lim ∧ i = .int .i64 r ∧ wr = w) (fun i _ => n - (intOf i).toNat)
  case atStart => exact ⟨0, by omega, rfl, rfl⟩
  case round =>
    obtain ⟨r, hr, rfl, rfl⟩ := hrel
    by_cases hlt : r < lim
    · have hlt' : (r : Int) < n := by omega
      obtain ⟨hLr, hrow⟩ := HOK.out r hlt
      obtain ⟨ad, Ai, ci, rfl, hal, hc, hv⟩ := HM.out r (by omega)
      rw [hLr] at hc hv
      have HV := Lib.hid hv
      have HR := Lib.hid hrow
      clear hv hrow hLr hal
      go_wp2_with fail
      go_loopw [31] (fun i wq => ∃ q : Nat, q ≤ n ∧ i = .int .i64 q ∧ wq = wr) (fun i _ => n - (intOf i).toNat)
      case atStart => exact ⟨0, by omega, rfl, rfl⟩
      case round =>
        obtain ⟨q, hq, rfl, rfl⟩ := hrel
        by_cases hql : q < n
        · have hql' : (q : Int) < n := by omega
          obtain ⟨Bi, rfl, hbl, hcq⟩ := HV.out q hql
          have hf0 := (HR.out q hql).1
          have hf1 := (HR.out q hql).2
          have hd0 : decide (f r q < -1) = false := decide_eq_false (by omega)
          have hd1 : decide ((n : Int) ≤ f r q) = false := decide_eq_false (by omega)
          clear hbl
          go_wp2_with fail
          go_roundw
          case rel => exact ⟨q + 1, by omega, by go_num, trivial⟩
          case measure => simp [intOf]; omega
        · have eq : q = n := by omega
          subst eq
          go_wp2_with fail
          go_roundw
          case rel => exact ⟨r + 1, by omega, by go_num, trivial⟩
          case measure => simp [intOf]; omega
    · have er : r = lim := by omega
      subst er
      rcases HW.out with ⟨hrn, hbad⟩ | ⟨hrn, hbad, rfl⟩
      · have hlt' : (r : Int) < n := by omega
        obtain ⟨ad, Ai, ci, rfl, hal, hc, hv⟩ := HM.out r hrn
        have hLr := HLL.out r hrn
        rcases hbad with ⟨hne, rfl⟩ | ⟨heq, rfl, k, hk, hpre, hbk⟩
        · have hd : ((L r : Int) == (n : Int)) = false := beq_false_of_ne (by omega)
          have hd' : (L r == n) = false := beq_false_of_ne hne
          clear hv hal
          go_wp2_with fail
          go_ret2
          exact ⟨rfl, Below.refl _ _⟩
        · rw [heq] at hc hv
          have HV := Lib.hid hv
          have HP := Lib.hid hpre
          have HBK := Lib.hid hbk
          clear hv hal hpre heq hbk hLr
          go_wp2_with fail
          go_loopw [31] (fun i wq => ∃ q : Nat, q ≤ k ∧ i = .int .i64 q ∧ wq = wr) (fun i _ => n - (intOf i).toNat)
          case atStart => exact ⟨0, by omega, rfl, rfl⟩
          case round =>
            obtain ⟨q, hq, rfl, rfl⟩ := hrel
            have hql' : (q : Int) < n := by omega
            obtain ⟨Bi, rfl, hbl, hcq⟩ := HV.out q (by omega)
            clear hbl
            by_cases hqk : q < k
            · have hf0 := (HP.out q hqk).1
              have hf1 := (HP.out q hqk).2
              have hd0 : decide (f r q < -1) = false := decide_eq_false (by omega)
              have hd1 : decide ((n : Int) ≤ f r q) = false := decide_eq_false (by omega)
              go_wp2_with fail
              go_roundw
              case rel => exact ⟨q + 1, by omega, by go_num, trivial⟩
              case measure => simp [intOf]; omega
            · obtain rfl : q = k := by omega
              rcases (show f r q < -1 ∨ (-1 ≤ f r q ∧ (n : Int) ≤ f r q) by have := HBK.out; omega) with hb | ⟨hb0, hb1⟩
              · go_wp2_with fail
                go_ret2
                exact ⟨rfl, Below.refl _ _⟩
              · go_wp2_with fail
                go_ret2
                exact ⟨rfl, Below.refl _ _⟩
      · subst hrn
        rcases (show x < 0 ∨ (0 ≤ x ∧ (r : Int) ≤ x) ∨ (0 ≤ x ∧ x < r ∧ y < 0) ∨ (0 ≤ x ∧ x < r ∧ 0 ≤ y ∧ (r : Int) ≤ y) ∨ (0 ≤ x ∧ x < r ∧ 0 ≤ y ∧ y < r ∧ t < 0) ∨ (0 ≤ x ∧ x < r ∧ 0 ≤ y ∧ y < r ∧ 0 ≤ t ∧ 255 < t) by unfold ArgsOk at hbad; omega) with h1 | ⟨h1, h2⟩ | ⟨h1, h2, h3⟩ | ⟨h1, h2, h3, h4⟩ | ⟨h1, h2, h3, h4, h5⟩ | ⟨h1, h2, h3, h4, h5, h6⟩
        all_goals
          clear hbad
          go_wp2_with fail
          go_ret2
          exact ⟨rfl, Below.refl _ _⟩

/-- What the way comes to. -/
def TraceTold (R : Except Int Nat) (p : Nat → Int) (w : World) (e : Ending) (w' : World) : Prop :=
  (∃ k g c, R = .ok k ∧ e = .returned (.tuple #[.slice (some ⟨g, 0, none⟩) (k + 1) c, .nilIface]) ∧ OwnV w' w.heap.size (.slice (some ⟨g, 0, none⟩) (k + 1) c) (k + 1) p ∧ Below w.heap.size w w') ∨
  (∃ v, R = .error v ∧ e = .returned (.tuple #[.slice none 0 0, errNo v]) ∧ Below w.heap.size w w')

set_option maxRecDepth 100000 in
set_option maxHeartbeats 4000000 in
theorem trace_good (A : Option Addr) (n cA : Nat) (L : Nat → Nat) (f : Nat → Nat → Int) (x y t : Nat) (X Y T : Int) (hX : X = x) (hY : Y = y) (hTT : T = t) (w : World) (hm : Mat w A n L f) (hn : n ≤ 9223372036854775807) (hr : ∀ i, i < n → RowOk n L f i) (hx : x < n) (hy : y < n) (ht : t ≤ 255) :
    Calls Tryd.prog 30 #[.slice A n cA, .int .i64 X, .int .i64 Y, .int .i64 T] w (TraceTold (trRes f x y t) (posT f x y) w) := by
  subst hX hY hTT
  have HM := Lib.hid hm
  have HOK := Lib.hid hr
  have hx' : (x : Int) < n := by omega
  have hy' : (y : Int) < n := by omega
  have ht' : (t : Int) ≤ 255 := by omega
  have hd0 : decide ((x : Int) < 0) = false := decide_eq_false (by omega)
  have hd1 : decide (n ≤ x) = false := decide_eq_false (by omega)
  have hd2 : decide ((y : Int) < 0) = false := decide_eq_false (by omega)
  have hd3 : decide (n ≤ y) = false := decide_eq_false (by omega)
  have hd4 : decide ((t : Int) < 0) = false := decide_eq_false (by omega)
  have hd5 : decide (255 < t) = false := decide_eq_false (by omega)
  have hd6 : decide ((255 : Int) < t) = false := decide_eq_false (by omega)
  obtain ⟨ad, hA⟩ : ∃ ad, A = some ad := by
    obtain ⟨ad, _, _, e, _⟩ := hm x hx
    exact ⟨ad, e⟩
  subst hA
  clear hm hr
  go_enter Tryd.func30, Tryd.ntmps30
  go_wp2_with fail
  go_loopw [20] (fun i wr => ∃ r : Nat, r ≤ n ∧ i = .int .i64 r ∧ wr = w) (fun i _ => n - (intOf i).toNat)
  case atStart => exact ⟨0, by omega, rfl, rfl⟩
  case round =>
    obtain ⟨r, hr, rfl, rfl⟩ := hrel
    by_cases hlt : r < n
    · have hlt' : (r : Int) < n := by omega
      obtain ⟨hLr, hrow⟩ := HOK.out r hlt
      obtain ⟨ad', Ai, ci, e, hc, -, -, hv⟩ := HM.out.sq_ HOK.out r hlt
      injection e with e
      subst e
      have HV := Lib.hid hv
      have HR := Lib.hid hrow
      clear hv hrow hLr
      go_wp2_with fail
      go_loopw [31] (fun i wq => ∃ q : Nat, q ≤ n ∧ i = .int .i64 q ∧ wq = wr) (fun i _ => n - (intOf i).toNat)
      case atStart => exact ⟨0, by omega, rfl, rfl⟩
      case round =>
        obtain ⟨q, hq, rfl, rfl⟩ := hrel
        by_cases hql : q < n
        · have hql' : (q : Int) < n := by omega
          have hcq := HV.out q hql
          have hf0 := (HR.out q hql).1
          have hf1 := (HR.out q hql).2
          have he0 : decide (f r q < -1) = false := decide_eq_false (by omega)
          have he1 : decide ((n : Int) ≤ f r q) = false := decide_eq_false (by omega)
          go_wp2_with fail
          go_roundw
          case rel => exact ⟨q + 1, by omega, by go_num, trivial⟩
          case measure => simp [intOf]; omega
        · have eq : q = n := by omega
          subst eq
          go_wp2_with fail
          go_roundw
          case rel => exact ⟨r + 1, by omega, by go_num, trivial⟩
          case measure => simp [intOf]; omega
    · have er : r = n := by omega
      subst er
      obtain ⟨wo, rfl⟩ : ∃ wo : World, wo = wr := ⟨_, rfl⟩
      have HO1 := Lib.hid (OwnV.one wo wo.heap.size (Nat.le_refl _) x (posT f x y) rfl)
      have HB1 : Hid (Below wo.heap.size wo (wo.alloc (.cells #[.int .i64 x] 3))) := (Below.refl _ _).alloc (Nat.le_refl _) _
      go_wp2_with fail
      go_loopw [1, 15] (fun s o wk => ∃ k a g c : Nat, k ≤ t ∧ s = .int .i64 a ∧ a < r ∧ Hid (posT f x y k = a) ∧ o = .slice (some ⟨g, 0, none⟩) (k + 1) c ∧ OwnV wk wo.heap.size (.slice (some ⟨g, 0, none⟩) (k + 1) c) (k + 1) (posT f x y) ∧ Below wo.heap.size wo wk ∧ Hid (trGo (posT f x y) y t (t + 1 - k) k = trRes f x y t)) (fun _ o _ => t + 2 - lenV o)
      case atStart => exact ⟨0, x, wo.heap.size, 1, by omega, rfl, hx, Lib.hid rfl, rfl, HO1.out, HB1.out, Lib.hid rfl⟩
      case round =>
        obtain ⟨k, a, g, c, hk, rfl, har, hpk, rfl, hown, hb, hgo⟩ := hrel
        have HT := Lib.hid hown
        have HB := Lib.hid hb
        have HPK := hpk
        have HGO := hgo
        have hk255 : k ≤ 255 := by omega
        have hkI : (k : Int) ≤ 255 := by omega
        have HQ := Lib.hid (show t + 1 - k = (t - k) + 1 by omega)
        clear hown hb hpk hgo HO1 HB1
        by_cases hay : a = y
        · have HR : Hid (trRes f x y t = .ok k) := by
            rw [← HGO.out, HQ.out]
            exact trGo_here (by rw [HPK.out, hay])
          subst hay
          go_wp2_with fail
          go_ret2
          exact .inl ⟨k, g, c, HR.out, rfl, HT.out, HB.out⟩
        · have hne : Hid (posT f x y k ≠ y) := by rw [HPK.out]; exact fun e => hay (by omega)
          have hdy : (a == y) = false := beq_false_of_ne hay
          have hdz : ((a : Int) == (y : Int)) = false := beq_false_of_ne (by omega)
          have har' : (a : Int) < r := by omega
          obtain ⟨ad', Ai, ci, e, hc, hal, hAl, hv⟩ := HM.out.sq_ HOK.out a har
          injection e with e
          subst e
          have hc := (HB.out.cell (by rw [block_of_add]; exact hal)).trans hc
          have hv := (HB.out.cell (by rw [block_of_add]; exact hAl)).trans (hv y hy)
          have HZ := Lib.hid (posT_succ HPK.out)
          have HZR := Lib.hid ((HOK.out a har).2 y hy)
          obtain ⟨z, hz⟩ : ∃ z, f a y = z := ⟨_, rfl⟩
          rw [hz] at hv
          have HZZ := Lib.hid hz
          clear hz hal hAl hay
          by_cases hz0 : z < 0
          · have HR : Hid (trRes f x y t = .error 2) := by
              rw [← HGO.out, HQ.out]
              exact trGo_none hne.out (by rw [HZ.out, HZZ.out]; exact hz0)
            have hdn : decide (z < 0) = true := decide_eq_true hz0
            go_wp2_with fail
            go_ret2
            exact .inr ⟨2, HR.out, rfl, HB.out⟩
          · have hzp : Hid (¬ posT f x y (k + 1) < 0) := by rw [HZ.out, HZZ.out]; exact hz0
            have hdn : decide (z < 0) = false := decide_eq_false hz0
            by_cases htk : t ≤ k
            · have HR : Hid (trRes f x y t = .error 4) := by
                rw [← HGO.out, HQ.out]
                exact trGo_full hne.out hzp.out htk
              have htk' : (t : Int) < (k : Int) + 1 := by omega
              have htk2 : t < k + 1 := by omega
              go_wp2_with fail
              go_ret2
              exact .inr ⟨4, HR.out, rfl, HB.out⟩
            · have HR : Hid (trGo (posT f x y) y t (t + 1 - (k + 1)) (k + 1) = trRes f x y t) := by
                rw [← HGO.out, HQ.out, trGo_next hne.out hzp.out htk]
                congr 1
                omega
              have hdk : decide ((t : Int) < (k : Int) + 1) = false := decide_eq_false (by omega)
              have hdk2 : decide (t < k + 1) = false := decide_eq_false (by omega)
              obtain ⟨zn, rfl⟩ : ∃ zn : Nat, z = zn := ⟨z.toNat, by omega⟩
              have hzr : zn < r := by have := HZR.out; have := HZZ.out; omega
              have HP1 : Hid (posT f x y (k + 1) = zn) := HZ.out.trans HZZ.out
              have HKT := Lib.hid (show k + 1 ≤ t by omega)
              have hbs := HB.out.size
              clear hz0 htk
              go_wp2_with (at_builtin; refine wpList_append_int rfl (.tmp 92) (.tmp 94) rfl wo.heap.size _ (k + 1) (posT f x y) rfl (HT.out.alloc _) zn _ rfl (cell_new_at _ _ _ rfl) (by omega) (by simp; omega) ?_)
              intro g3 cap3 w3 hT3 hb3 _ _
              have HT3 : Hid (OwnV w3 wo.heap.size (.slice (some ⟨g3, 0, none⟩) (k + 1 + 1) cap3) (k + 1 + 1) (posT f x y)) := OwnV.congr hT3 fun i hi => by
                unfold upd
                by_cases e : i = k + 1
                · rw [if_pos e, e, HP1.out]
                · rw [if_neg e]
              have HB3 : Hid (Below wo.heap.size wo w3) := (HB.out.alloc HB.out.size _).trans hb3
              clear hT3 hb3 hc hv hbs
              go_wp2_with fail
              go_roundw
              case rel => exact ⟨k + 1, zn, g3, cap3, HKT.out, rfl, hzr, HP1, rfl, HT3.out, HB3.out, HR⟩
              case measure =>
                have := HKT.out
                simp [lenV]
                omega

end Go.Proofs.YtbepfmcaolmhgaaDoor

/- TraceTells: the walk. -/
namespace Go.Proofs.YtbepfmcaolmhgaaDoor
open Go.RowKit
set_option linter.unusedVariables false

/-- What the reference's way comes to. -/
def TraceOfTold (R : Except Int Nat) (p : Nat → Int) (w : World) (e : Ending) (w' : World) : Prop :=
  (∃ k g c, R = .ok k ∧ e = .returned (.tuple #[.slice (some ⟨g, 0, none⟩) (k + 1) c, .int .i64 0]) ∧ OwnV w' w.heap.size (.slice (some ⟨g, 0, none⟩) (k + 1) c) (k + 1) p ∧ Below w.heap.size w w') ∨
  (∃ v, R = .error v ∧ e = .returned (.tuple #[.slice none 0 0, .int .i64 v]) ∧ Below w.heap.size w w')

/-- A slice that is nil reads as nothing. -/
theorem Vec.none_ (w : World) (f : Nat → Int) : Vec w none 0 f := fun j hj => absurd hj (by omega)

/-- The facts' table. -/
theorem mat_two (w : World) : Mat (((w.alloc (.cells #[.int .i64 0, .int .i64 1] 3)).alloc (.cells #[.int .i64 0, .int .i64 1] 3)).alloc (.cells #[.slice (some ⟨w.heap.size, 0, none⟩) 2 2, .slice (some ⟨w.heap.size + 1, 0, none⟩) 2 2] 23))
    (some ⟨w.heap.size + 1 + 1, 0, none⟩) 2 (fun _ => 2) (fun _ j => (j : Int)) := by
  have b0 := ((Blk.new w 3 #[.int .i64 0, .int .i64 1]).alloc (.cells #[.int .i64 0, .int .i64 1] 3)).alloc (.cells #[.slice (some ⟨w.heap.size, 0, none⟩) 2 2, .slice (some ⟨w.heap.size + 1, 0, none⟩) 2 2] 23)
  have b1 := (Blk.new (w.alloc (.cells #[.int .i64 0, .int .i64 1] 3)) 3 #[.int .i64 0, .int .i64 1]).alloc (.cells #[.slice (some ⟨w.heap.size, 0, none⟩) 2 2, .slice (some ⟨w.heap.size + 1, 0, none⟩) 2 2] 23)
  have b2 := Blk.new ((w.alloc (.cells #[.int .i64 0, .int .i64 1] 3)).alloc (.cells #[.int .i64 0, .int .i64 1] 3)) 23 #[.slice (some ⟨w.heap.size, 0, none⟩) 2 2, .slice (some ⟨w.heap.size + 1, 0, none⟩) 2 2]
  rw [show (w.alloc (.cells #[Value.int .i64 0, .int .i64 1] 3)).heap.size = w.heap.size + 1 by simp] at b1
  rw [show ((w.alloc (.cells #[Value.int .i64 0, .int .i64 1] 3)).alloc (.cells #[Value.int .i64 0, .int .i64 1] 3)).heap.size = w.heap.size + 1 + 1 by simp] at b2
  have hv : ∀ {W : World} {g : Nat}, Blk W g 3 #[.int .i64 0, .int .i64 1] → Vec W (some ⟨g, 0, none⟩) 2 (fun j => (j : Int)) := fun {W g} h j hj => ⟨_, rfl, h.lt, by
    rw [Addr.add_lit, Nat.zero_add, h.cell]
    have h : j = 0 ∨ j = 1 := by omega
    rcases h with rfl | rfl <;> rfl⟩
  intro i hi
  have h : i = 0 ∨ i = 1 := by omega
  rcases h with rfl | rfl
  · exact ⟨_, some ⟨w.heap.size, 0, none⟩, 2, rfl, b2.lt, by rw [Addr.add_lit, Nat.zero_add, b2.cell]; rfl, hv b0⟩
  · exact ⟨_, some ⟨w.heap.size + 1, 0, none⟩, 2, rfl, b2.lt, by rw [Addr.add_lit, Nat.zero_add, b2.cell]; rfl, hv b1⟩

theorem two_ok : ∀ i, i < 2 → RowOk 2 (fun _ => 2) (fun _ j => (j : Int)) i := fun i hi => ⟨rfl, fun k hk => by
  show -1 ≤ (k : Int) ∧ (k : Int) < (2 : Nat)
  omega⟩

theorem two_res : trRes (fun _ j => (j : Int)) 0 1 5 = .ok 1 := by rfl

set_option maxRecDepth 100000 in
set_option maxHeartbeats 2000000 in
theorem traced_walk (w : World) :
    Calls Tryd.prog 29 #[] w fun e w' => e = .returned (.bool true) ∧ Below w.heap.size w w' := by
  go_enter Tryd.func29, Tryd.ntmps29
  go_wp2_with fail
  have hcall := trace_good (some ⟨w.heap.size + 1 + 1, 0, none⟩) 2 2 (fun _ => 2) (fun _ j => (j : Int)) 0 1 5 0 1 5 rfl rfl rfl _ (mat_two w) (by omega) two_ok (by omega) (by omega) (by omega)
  refine hcall.mono ?_
  clear hcall
  rintro e w1 hT
  rcases hT with ⟨k, g, c, hk, rfl, hown, hb⟩ | ⟨v, hv, -, -⟩
  · rw [two_res] at hk
    injection hk with hk
    subst hk
    obtain ⟨A, c', e, hV⟩ := hown.vec
    injection e with e1 e2 e3
    subst e1 e3
    have HV := Lib.hid hV
    have HB : Hid (Below w.heap.size w w1) := ((((Below.refl w.heap.size w).alloc (Nat.le_refl _) _).alloc (by simp) _).alloc (by simp; omega) _).trans (hb.mono (by simp; omega))
    clear hown hV hb e2
    go_wp2_with fail
    have hcall := ints_walk (some ⟨g, 0, none⟩) (some ⟨w1.heap.size, 0, none⟩) 2 2 c 2 _ (fun j => (j : Int)) (w1.alloc (.cells #[.int .i64 0, .int .i64 1] 3)) (HV.out.keep ((Below.refl _ _).alloc (Nat.le_refl _) _)) (fun j hj => ⟨_, rfl, (Blk.new w1 3 #[.int .i64 0, .int .i64 1]).lt, by
      rw [Addr.add_lit, Nat.zero_add, (Blk.new w1 3 #[.int .i64 0, .int .i64 1]).cell]
      have h : j = 0 ∨ j = 1 := by omega
      rcases h with rfl | rfl <;> rfl⟩) (by omega) (by omega) true ⟨fun _ => ⟨rfl, fun i hi => by
        have h : i = 0 ∨ i = 1 := by omega
        rcases h with rfl | rfl <;> rfl⟩, fun _ => rfl⟩
    refine hcall.mono ?_
    clear hcall
    rintro e w2 ⟨rfl, k2, rfl⟩
    go_wp2_with fail
    go_ret
    exact ⟨rfl, below_drewN (HB.out.alloc HB.out.size _) _⟩
  · rw [two_res] at hv
    cases hv

end Go.Proofs.YtbepfmcaolmhgaaDoor

/- A slice of slices that the call itself makes by appends, each row of its own length. -/
namespace Go.Proofs.YtbepfmcaolmhgaaDoor
open Go.RowKit
set_option linter.unusedVariables false

/-- v has i rows, row r of L r numbers, f r of the index. -/
def Rag (w : World) (base : Nat) (v : Value) (i : Nat) (L : Nat → Nat) (f : Nat → Nat → Int) : Prop :=
  ∃ V : Nat → Value, w.ownsRow base 23 1 v i ((List.range i).map V) ∧ ∀ r, r < i → OwnV w base (V r) (L r) (f r)

section
variable {w w' : World} {base base' : Nat} {v : Value} {i : Nat} {L : Nat → Nat} {f : Nat → Nat → Int}
theorem OwnV.lift {n : Nat} {f : Nat → Int} (h : OwnV w base v n f) (hb : base' ≤ base) : OwnV w base' v n f := by
  refine ⟨h.1, ?_⟩
  rcases h.2 with h' | ⟨q, cap, cur, hv, hg, hrest⟩
  · exact .inl h'
  · exact .inr ⟨q, cap, cur, hv, Nat.le_trans hb hg, hrest⟩
theorem Rag.nil (w : World) (base : Nat) (L : Nat → Nat) (f : Nat → Nat → Int) : Rag w base (.slice none 0 0) 0 L f := ⟨fun _ => .slice none 0 0, World.ownsRow_nil _ _ _ _, fun r hr => absurd hr (by omega)⟩
theorem Rag.same (h : Rag w base v i L f) (hs : ∀ b, base ≤ b → b < w.heap.size → w'.heap[b]? = w.heap[b]?) : Rag w' base v i L f := by
  obtain ⟨V, h1, h2⟩ := h
  exact ⟨V, ownsRow_same h1 hs, fun r hr => (h2 r hr).same hs⟩
theorem Rag.below (h : Rag w base v i L f) (hb : Below w.heap.size w w') : Rag w' base v i L f := h.same fun b _ hlt => hb.block b hlt
theorem Rag.alloc (h : Rag w base v i L f) (o : Obj) : Rag (w.alloc o) base v i L f := h.below ((Below.refl _ _).alloc (Nat.le_refl _) o)
theorem Rag.drewN (h : Rag w base v i L f) (k : Nat) : Rag (w.drewN k) base v i L f := h
theorem Rag.lift (h : Rag w base v i L f) (hb : base' ≤ base) : Rag w base' v i L f := by
  obtain ⟨V, ⟨h0, h1⟩, h2⟩ := h
  refine ⟨V, ⟨h0, ?_⟩, fun r hr => (h2 r hr).lift hb⟩
  rcases h1 with h' | ⟨q, cap, cur, hv, hg, hrest⟩
  · exact .inl h'
  · exact .inr ⟨q, cap, cur, hv, Nat.le_trans hb hg, hrest⟩
/-- As a table to be read. -/
theorem Rag.mat (h : Rag w base v i L f) : ∃ A c, v = .slice A i c ∧ Mat w A i L f := by
  obtain ⟨V, h1, h2⟩ := h
  rcases h1.2 with ⟨hv, h0⟩ | ⟨g, cap, cur, hv, hb, hg, hnc, hcm, hcs, htake⟩
  · subst h0
    exact ⟨none, 0, hv, fun r hr => absurd hr (by omega)⟩
  · refine ⟨some ⟨g, 0, none⟩, cap, hv, fun r hr => ?_⟩
    obtain ⟨A, c, e, hvec⟩ := (h2 r hr).vec
    refine ⟨_, A, c, rfl, (Array.getElem?_eq_some_iff.1 hg).1, ?_, hvec⟩
    rw [Addr.add_lit, Nat.zero_add, ← e]
    have e2 : (cur.toList.take (i * 1))[r]? = ((List.range i).map V)[r]? := by rw [htake]
    rw [List.getElem?_take, if_pos (by omega)] at e2
    have e3 : cur[r]? = some (V r) := by simpa [hr] using e2
    simp [World.cell?, hg, e3]
/-- It lies in a block of its own, not nil. -/
theorem Rag.form (h1 : 1 ≤ i) (h : Rag w base v i L f) : ∃ g c, v = .slice (some ⟨g, 0, none⟩) i c ∧ base ≤ g ∧ g < w.heap.size := by
  obtain ⟨V, h2, -⟩ := h
  rcases h2.2 with ⟨hv, h0⟩ | ⟨g, cap, cur, hv, hb, hg, hnc, hcm, hcs, htake⟩
  · omega
  · exact ⟨g, cap, hv, hb, (Array.getElem?_eq_some_iff.1 hg).1⟩
end

/-- An append of one row. -/
theorem wpList_append_rag {w : World} {ops : Array Oper} {rest : List Oper} {o : Oper} {a : Act} {Q : Exit → Act → World → Prop} (hgd : o.guard = none) (s x : Operand)
    (ho : o.op = .call { callee := .builtin .append, args := #[s, x], argTypes := #[33, 33] })
    (base : Nat) (v : Value) (i : Nat) (L : Nat → Nat) (f : Nat → Nat → Int) (hs : a.eval s = v) (hT : Rag w base v i L f)
    (u : Value) (hrow : OwnV w base u (L i) (f i)) (ad : Addr) (hx : a.eval x = .slice (some ad) 1 1)
    (hnew : ∀ j u', [u][j]? = some u' → w.cell? (ad.add j) = some u') (hi : i ≤ 1000000000000) (hbase : base ≤ w.heap.size)
    (h : ∀ v' w', Rag w' base v' (i + 1) L f → Below base w w' → wpList Tryd.prog ops Q rest (a.put o.dst v') w') :
    wpList Tryd.prog ops Q (o :: rest) a w := by
  obtain ⟨V, hown, hr⟩ := hT
  obtain ⟨i0, hi0, hz0, hz1, hz2⟩ := info_parts infoRow
  have hu1 : u.oneCell' = true := by
    rcases hrow.form with ⟨-, rfl⟩ | ⟨g, c, rfl, -⟩ <;> simp [Value.oneCell']
  refine wpList_append_own_at w hgd s x 33 ho base 23 i0 _ 1 24 Tryd.underlying33 hi0 hz0 hz1 hz2 rfl (by decide) v i _ hs hown ad 1 1 [u] hx rfl hnew (by simpa using hu1) (by unfold maxLen; omega) (by omega) hbase ?_
  intro v' w' ho1 hg1 _ _
  have hkeep : ∀ {z : Value} {n : Nat} {F : Nat → Int}, OwnV w base z n F → OwnV w' base z n F := by
    intro z n F hz
    refine ⟨hz.1, ?_⟩
    rcases hz.2 with h' | ⟨g, cap, cur, hv, hb, hg, hrest⟩
    · exact .inl h'
    · refine .inr ⟨g, cap, cur, hv, hb, ?_, hrest⟩
      rw [hg1.block g (Array.getElem?_eq_some_iff.1 hg).1 fun e => ?_]
      · exact hg
      · rcases hown.2 with ⟨hv2, _⟩ | ⟨g2, cap2, cur2, hv2, hb2, hg2, _⟩
        · rw [hv2] at e; cases e
        · rw [hv2] at e
          have e' : g = g2 := by simpa [Value.ownBlock] using e
          subst e'
          rw [hg] at hg2
          simp at hg2
  refine h v' w' ⟨fun r => if r = i then u else V r, ?_, fun r hlt => ?_⟩ ?_
  · rw [List.range_succ, List.map_append]
    have e1 : (List.range i).map (fun r => if r = i then u else V r) = (List.range i).map V := by
      apply List.map_congr_left
      intro j hj
      have := List.mem_range.1 hj
      rw [if_neg (by omega)]
    rw [e1]
    simpa using ho1
  · by_cases hri : r = i
    · subst hri
      simp only [if_true]
      exact hkeep hrow
    · simp only [if_neg hri]
      exact hkeep (hr r (by omega))
  · refine ⟨hg1.os, hg1.tape, hg1.output, hg1.size, fun k hk => hg1.block k (by omega) fun e => ?_⟩
    rcases hown.2 with ⟨hv, _⟩ | ⟨g, cap, cur, hv, hb, hg, hrest⟩
    · rw [hv] at e; cases e
    · rw [hv] at e
      have e' : k = g := by simpa [Value.ownBlock] using e
      omega

end Go.Proofs.YtbepfmcaolmhgaaDoor

/- Where all have settled a parcel comes there, on a shortest way: plain laws. -/
namespace Go.Proofs.YtbepfmcaolmhgaaDoor
set_option linter.unusedVariables false

section
variable {n m : Nat} {a b c : Nat → Int} {F : Nat → Nat → Int} {x y : Nat}

/-- What the next ones to y are. -/
def Leads (n m : Nat) (a b c : Nat → Int) (F : Nat → Nat → Int) (y : Nat) : Prop := ∀ i, i < n → (F i y = -1 ∧ (y = i ∨ ¬ endF i a b c m y < 16)) ∨
  ∃ p : Nat, p < n ∧ F i y = (p : Int) ∧ p ≠ i ∧ y ≠ i ∧ endF i a b c m y < 16 ∧ 1 ≤ costF m a b c i p ∧ costF m a b c i p < 16 ∧ endF p a b c m y + costF m a b c i p = endF i a b c m y

/-- The parcel behind j steps. -/
structure At (n m : Nat) (a b c : Nat → Int) (F : Nat → Nat → Int) (x y j p : Nat) : Prop where
  lt : p < n
  pos : posT F x y j = (p : Int)
  sum : wayLen m a b c (posT F x y) (j + 1) + endF p a b c m y = endF x a b c m y
  long : (j : Int) ≤ wayLen m a b c (posT F x y) (j + 1)
  ins : ∀ i, i ≤ j → 0 ≤ posT F x y i ∧ posT F x y i < n
  none : ∀ i, i < j → posT F x y i ≠ y ∧ 0 ≤ posT F x y (i + 1)
  links : ∀ i, i + 1 < j + 1 → costV m a b c (posT F x y i) (posT F x y (i + 1)) ≠ 0 ∧ costV m a b c (posT F x y i) (posT F x y (i + 1)) ≠ 16

theorem At.start (hx : x < n) : At n m a b c F x y 0 x where
  lt := hx
  pos := rfl
  sum := by
    show wayLen m a b c (posT F x y) 0 + (if 0 = 0 then 0 else costV m a b c (posT F x y (0 - 1)) (posT F x y 0)) + _ = _
    rw [if_pos rfl]
    show (0 : Int) + 0 + _ = _
    omega
  long := by
    show ((0 : Nat) : Int) ≤ wayLen m a b c (posT F x y) 0 + (if 0 = 0 then 0 else costV m a b c (posT F x y (0 - 1)) (posT F x y 0))
    rw [if_pos rfl]
    show ((0 : Nat) : Int) ≤ 0 + 0
    omega
  ins i hi := by
    obtain rfl : i = 0 := by omega
    show (0 : Int) ≤ (x : Int) ∧ (x : Int) < n
    omega
  none i hi := absurd hi (by omega)
  links i hi := absurd hi (by omega)

theorem At.step {j p : Nat} (hF : Leads n m a b c F y) (hD : endF x a b c m y < 16) (hlow : ∀ i, i < n → 0 ≤ endF i a b c m y) (h : At n m a b c F x y j p) (hp : p ≠ y) : ∃ q, At n m a b c F x y (j + 1) q := by
  have h1 := h.sum
  have h2 := h.long
  have hl := hlow p h.lt
  have hpos : posT F x y (j + 1) = F p y := by
    show (if posT F x y j < 0 then posT F x y j else F (posT F x y j).toNat y) = F p y
    rw [h.pos, if_neg (by omega), Int.toNat_natCast]
  rcases hF p h.lt with ⟨-, h3⟩ | ⟨q, hq, h3, h4, h5, h6, h7, h8, h9⟩
  · rcases h3 with h3 | h3
    · exact absurd h3.symm hp
    · omega
  · rw [h3] at hpos
    have e : wayLen m a b c (posT F x y) (j + 1 + 1) = wayLen m a b c (posT F x y) (j + 1) + costF m a b c p q := by
      show wayLen m a b c (posT F x y) (j + 1) + (if j + 1 = 0 then 0 else costV m a b c (posT F x y (j + 1 - 1)) (posT F x y (j + 1))) = _
      rw [if_neg (by omega), Nat.add_sub_cancel, h.pos, hpos]
      rfl
    refine ⟨q, hq, hpos, by rw [e]; omega, by rw [e]; omega, fun i hi => ?_, fun i hi => ?_, fun i hi => ?_⟩
    · by_cases ei : i = j + 1
      · subst ei; rw [hpos]; omega
      · exact h.ins i (by omega)
    · by_cases ei : i = j
      · subst ei; rw [hpos, h.pos]; omega
      · exact h.none i (by omega)
    · by_cases ei : i = j
      · subst ei
        rw [hpos, h.pos]
        have e2 : costV m a b c (p : Int) (q : Int) = costF m a b c p q := rfl
        rw [e2]
        omega
      · exact h.links i (by omega)

theorem At.ends (hF : Leads n m a b c F y) (hD : endF x a b c m y < 16) (hlow : ∀ i, i < n → 0 ≤ endF i a b c m y) : ∀ (d j p : Nat), 16 ≤ d + j → At n m a b c F x y j p → ∃ k, k ≤ 15 ∧ At n m a b c F x y k y
  | 0, j, p, hd, h => by
    have h1 := h.sum
    have h2 := h.long
    have := hlow p h.lt
    omega
  | d + 1, j, p, hd, h => by
    by_cases hp : p = y
    · subst hp
      have h1 := h.sum
      have h2 := h.long
      have := hlow p h.lt
      exact ⟨j, by omega, h⟩
    · obtain ⟨q, h'⟩ := h.step hF hD hlow hp
      exact At.ends hF hD hlow d (j + 1) q (by omega) h'

theorem arrives (hr : Right n m a b c) (hx : x < n) (hy : y < n) (hF : Leads n m a b c F y) (hD : endF x a b c m y < 16) :
    ∃ k, k ≤ 15 ∧ trRes F x y 255 = .ok k ∧ WayOk n m a b c (k + 1) (posT F x y) ∧ wayLen m a b c (posT F x y) (k + 1) = endF x a b c m y := by
  obtain ⟨k, hk, h⟩ := At.ends hF hD (fun i hi => (end_ranged (t := i) hr y hy).1) 16 0 x (by omega) (At.start hx)
  refine ⟨k, hk, trGo_of_ok _ 0 (Nat.zero_le _) (by omega) (by omega) h.pos fun j _ hj => h.none j hj, ⟨by omega, fun i hi => h.ins i (by omega), h.links⟩, ?_⟩
  have := h.sum
  rw [end_zero hr hy] at this
  omega

theorem never (hx : x < n) (hF : Leads n m a b c F y) (hne : x ≠ y) (hD : ¬ endF x a b c m y < 16) : trRes F x y 255 = .error 2 := by
  have h1 : posT F x y 1 = F x y := by
    show (if ((x : Nat) : Int) < 0 then ((x : Nat) : Int) else F ((x : Nat) : Int).toNat y) = F x y
    rw [if_neg (by omega), Int.toNat_natCast]
  rcases hF x hx with ⟨h2, -⟩ | ⟨p, -, -, -, -, h6, -⟩
  · refine trGo_none (q := 255) (k := 0) ?_ ?_
    · show ((x : Nat) : Int) ≠ y
      omega
    · rw [h1, h2]; omega
  · exact absurd h6 hD

theorem leads_row (hF : ∀ y, y < n → Leads n m a b c F y) {i : Nat} (hi : i < n) : RowOk n (fun _ => n) F i := by
  refine ⟨rfl, fun k hk => ?_⟩
  rcases hF k hk i hi with ⟨h, -⟩ | ⟨p, h1, h, -⟩
  · rw [h]; omega
  · rw [h]; omega
end

theorem leads_settled {po : Bool} {n m : Nat} {a b c : Nat → Int} (hr : Right n m a b c) {N : Nat} (hN : n ≤ N + 1) {y : Nat} (hy : y < n) : Leads n m a b c (fun i k => (lineS po n (costF m a b c) startS N i k).2) y := fun i hi => (line_settled hr hN hi hy).2

end Go.Proofs.YtbepfmcaolmhgaaDoor

/- TraceArrives: where all have settled a parcel comes to each node that it can, on a shortest way. For all arguments. -/
namespace Go.Proofs.YtbepfmcaolmhgaaDoor
open Go.RowKit
set_option linter.unusedVariables false

set_option maxRecDepth 100000 in
set_option maxHeartbeats 8000000 in
theorem traceArrives_walk (x : Int) (A : Option Addr) (m cap : Nat) (a b c : Nat → Int) (y z : Int) (w : World) (hET : ErrT w) (hN : NobT w) (hl : Lnk w A m a b c) (hm : m ≤ 9223372036854775807) :
    Calls Tryd.prog 8 #[.int .i64 x, .slice A m cap, .int .i64 y, .int .i64 z] w fun e w' => e = .returned (.bool true) ∧ Below w.heap.size w w' := by
  have HL := Lib.hid hl
  have HN := Lib.hid hN
  have HE := Lib.hid hET
  clear hl hN hET
  go_enter Tryd.func8, Tryd.ntmps8
  go_wp2_with fail
  refine (traced_walk w).mono ?_
  rintro e w1 ⟨rfl, hb1⟩
  have HB1 := Lib.hid hb1
  clear hb1
  go_wp2_with fail
  rcases graph_cases x m a b c with hg | ⟨v, -, hf⟩
  · obtain ⟨n, rfl, hn1, hn8, hr⟩ := good_nat hg
    have hn8' : (n : Int) ≤ 8 := by omega
    have HG := Lib.hid hg
    have HR := Lib.hid hr
    have HK := Lib.hid (cost_m hr)
    clear hg hr
    have hcall := lineNew_ok n n rfl A m cap true a b c w1 (HN.out.keep HB1.out) (HL.out.keep HB1.out) hm HG.out
    refine hcall.mono ?_
    clear hcall
    rintro e w2 ⟨s, rfl, hL, hb2⟩
    have HL2 : Hid (LineH w2 w1.heap.size s true n m a b c (fun i t => (lineS true n (costF m a b c) startS 0 i t).1) (fun i t => (lineS true n (costF m a b c) startS 0 i t).2)) := hL
    have HB2 := Lib.hid hb2
    clear hL hb2
    by_cases hin : 0 ≤ y ∧ y < n ∧ 0 ≤ z ∧ z < n
    · obtain ⟨hy0, hy1, hz0, hz1⟩ := hin
      obtain ⟨f, rfl⟩ : ∃ f : Nat, y = f := ⟨y.toNat, by omega⟩
      obtain ⟨t, rfl⟩ : ∃ t : Nat, z = t := ⟨z.toNat, by omega⟩
      have hfn : f < n := by omega
      have htn : t < n := by omega
      have hd1 : decide ((f : Int) < 0) = false := decide_eq_false (by omega)
      have hd2 : decide (n ≤ f) = false := decide_eq_false (by omega)
      have hd3 : decide ((t : Int) < 0) = false := decide_eq_false (by omega)
      have hd4 : decide (n ≤ t) = false := decide_eq_false (by omega)
      clear hy0 hz0
      go_wp2_with fail
      clear hd1 hd2 hd3 hd4
      go_loopw [12] (fun q wr => ∃ r : Nat, r ≤ n ∧ q = .int .i64 r ∧ LineH wr w1.heap.size s true n m a b c (fun i t => (lineS true n (costF m a b c) startS r i t).1) (fun i t => (lineS true n (costF m a b c) startS r i t).2) ∧ Below w1.heap.size w1 wr) (fun q _ => n - (intOf q).toNat)
      case atStart => exact ⟨0, by omega, rfl, HL2.out, HB2.out⟩
      case round =>
        obtain ⟨r, hr, rfl, hL, hb⟩ := hrel
        have HL3 := Lib.hid hL
        have HB3 := Lib.hid hb
        clear hL hb HL2 HB2
        by_cases hrN : r < n
        · have hlt : (r : Int) < (n : Int) := by omega
          have hcall := lineStep s n m _ true a b c _ _ wr (HN.out.keep (keep HB1.out HB3.out)) HL3.out hn1 hn8 hm HR.out (lineS_ranged HK.out startS_ranged r) HL3.out.lo_lt
          have HC := Lib.hid hcall
          clear hcall
          go_wp2_with fail
          refine HC.out.mono ?_
          rintro e w4 ⟨rfl, hL4, hb4⟩
          have HL4 : Hid (LineH w4 w1.heap.size s true n m a b c (fun i t => (lineS true n (costF m a b c) startS (r + 1) i t).1) (fun i t => (lineS true n (costF m a b c) startS (r + 1) i t).2)) := hL4
          have HB4 : Hid (Below w1.heap.size w1 w4) := HB3.out.trans hb4.bel
          clear hL4 hb4 HC HL3 HB3
          go_wp2_with fail
          go_roundw
          case rel => exact ⟨r + 1, by omega, by go_num, HL4.out, HB4.out⟩
          case measure => simp [intOf]; omega
        · have er : r = n := by omega
          subst er
          obtain ⟨wo, hwo⟩ : ∃ wo : World, wo = wr := ⟨_, rfl⟩
          rw [← hwo] at HL3 HB3 ⊢
          clear hwo
          have HSET := Lib.hid (fun t ht => leads_settled (po := true) HR.out (N := r) (by omega) (y := t) ht)
          obtain ⟨F, hF⟩ : ∃ F : Nat → Nat → Int, (fun i k => (lineS true r (costF m a b c) startS r i k).2) = F := ⟨_, rfl⟩
          have HLE : Hid (∀ t, t < r → Leads r m a b c F t) := by rw [← hF]; exact HSET.out
          obtain ⟨D, hD⟩ : ∃ D : Nat → Nat → Int, (fun i k => (lineS true r (costF m a b c) startS r i k).1) = D := ⟨_, rfl⟩
          have HLF : Hid (LineH wo w1.heap.size s true r m a b c D F) := by rw [← hF, ← hD]; exact HL3.out
          clear hF hD HSET HL3
          go_wp2_with fail
          go_loopw [13, 14] (fun v q wi => ∃ i : Nat, i ≤ r ∧ q = .int .i64 i ∧ Rag wi wo.heap.size v i (fun _ => r) F ∧ Below wo.heap.size wo wi) (fun _ q _ => r - (intOf q).toNat)
          case atStart => exact ⟨0, by omega, rfl, Rag.nil _ _ _ _, Below.refl _ _⟩
          case round =>
            obtain ⟨i, hi, rfl, hT, hb⟩ := hrel
            have HT := Lib.hid hT
            have HB5 := Lib.hid hb
            clear hT hb
            by_cases hin : i < r
            · have hin' : (i : Int) < r := by omega
              go_wp2_with fail
              have hcall := lineNext_ok s r m i i rfl _ true a b c _ _ wr (HLF.out.below HB5.out) hin hn8
              refine hcall.mono ?_
              clear hcall
              rintro e w6 ⟨v6, rfl, hV6, hb6⟩
              obtain ⟨A6, c6, rfl, -⟩ := hV6.vec
              have HV6 := Lib.hid (hV6.lift HB5.out.size)
              have HT6 := Lib.hid (HT.out.below hb6)
              have HB6 := Lib.hid (keep HB5.out hb6)
              clear hV6 hb6 HT HB5
              go_wp2_with (at_builtin; refine wpList_append_rag rfl (.tmp 83) (.tmp 85) rfl wo.heap.size _ i (fun _ => r) F rfl (HT6.out.alloc _) _ (HV6.out.alloc _) _ rfl (cell_new_at _ _ _ rfl) (by omega) (by have := HB6.out.size; simp; omega) ?_)
              intro v7 w7 hT7 hb7
              have HT7 := Lib.hid hT7
              have HB7 : Hid (Below wo.heap.size wo w7) := (HB6.out.alloc HB6.out.size _).trans hb7
              clear hT7 hb7 HT6 HB6 HV6
              go_wp2_with fail
              go_roundw
              case rel => exact ⟨i + 1, by omega, by go_num, HT7.out, HB7.out⟩
              case measure => simp [intOf]; omega
            · have ei : i = r := by omega
              subst ei
              obtain ⟨T8, c8, rfl, hmt⟩ := HT.out.mat
              have HMT := Lib.hid hmt
              have HBO := Lib.hid (keep HB1.out (HB3.out.trans (HB5.out.mono HB3.out.size)))
              clear hmt HT HB5
              go_wp2_with fail
              have hcall := trace_good T8 i c8 (fun _ => i) F f t 255 f t 255 rfl rfl rfl wr HMT.out (by omega) (fun k hk => leads_row HLE.out hk) hfn htn (by omega)
              refine hcall.mono ?_
              clear hcall
              rintro e w9 hT9
              by_cases h16 : endF f a b c m t < 16
              · obtain ⟨k, hk, hres, hway, hlen⟩ := arrives HR.out hfn htn (HLE.out t htn) h16
                rcases hT9 with ⟨k', g9, c9, he, rfl, hown, hb9⟩ | ⟨v9, he, -, -⟩
                · rw [hres] at he
                  injection he with he
                  subst he
                  have HV9 := Lib.hid hown
                  have HB9 := Lib.hid (keep HBO.out hb9)
                  have HW := Lib.hid hway
                  have HLN := Lib.hid hlen
                  clear hres hway hlen hown hb9 HBO
                  go_wp2_with fail
                  have hcall := spfFar_ok i f i f rfl rfl A m cap a b c w9 (HL.out.keep HB9.out) hm HG.out hfn
                  refine hcall.mono ?_
                  clear hcall
                  rintro e w10 ⟨g10, rfl, -, hrow10, hb10⟩
                  have HX10 := Lib.hid hrow10
                  obtain ⟨A9, c9', e9, hv9⟩ := HV9.out.vec
                  simp at e9
                  obtain ⟨rfl, rfl⟩ := e9
                  have HVV := Lib.hid (hv9.keep hb10)
                  have HB10 := Lib.hid (keep HB9.out hb10)
                  clear hrow10 hb10 hv9 HV9 HB9
                  have cx := HX10.out.cell htn
                  obtain ⟨dd, hdd⟩ : ∃ dd, endF f a b c m t = dd := ⟨_, rfl⟩
                  rw [hdd] at cx h16
                  have HDD := Lib.hid hdd
                  clear hdd
                  have hge : decide (16 ≤ dd) = false := decide_eq_false (by omega)
                  go_wp2_with fail
                  have hcall := lengthOf_walk i A m cap a b c (some ⟨g9, 0, none⟩) (k + 1) c9 (posT F f t) w10 (HL.out.keep HB10.out) hm HVV.out (by omega)
                  refine hcall.mono ?_
                  clear hcall
                  rintro e w11 ⟨sm, ok, rfl, htold, q, rfl⟩
                  obtain rfl : ok = true := htold.1.2 HW.out
                  obtain rfl : sm = dd := by
                    rw [htold.2.2 rfl HG.out, HLN.out, HDD.out]
                  clear htold
                  go_wp2_with fail
                  go_ret
                  exact ⟨rfl, below_drewN HB10.out _⟩
                · rw [hres] at he
                  cases he
              · have hne : f ≠ t := by
                  rintro rfl
                  rw [end_zero HR.out hfn] at h16
                  omega
                have hres := never hfn (HLE.out t htn) hne h16
                rcases hT9 with ⟨k', g9, c9, he, -, -, -⟩ | ⟨v9, he, rfl, hb9⟩
                · rw [hres] at he
                  cases he
                · rw [hres] at he
                  injection he with he
                  subst he
                  have HB9 := Lib.hid (keep HBO.out hb9)
                  clear hres hb9 HBO
                  go_wp2_with fail
                  have hcall := spfFar_ok i f i f rfl rfl A m cap a b c w9 (HL.out.keep HB9.out) hm HG.out hfn
                  refine hcall.mono ?_
                  clear hcall
                  rintro e w10 ⟨g10, rfl, -, hrow10, hb10⟩
                  have HX10 := Lib.hid hrow10
                  have HB10 := Lib.hid (keep HB9.out hb10)
                  clear hrow10 hb10 HB9
                  have cx := HX10.out.cell htn
                  obtain ⟨dd, hdd⟩ : ∃ dd, endF f a b c m t = dd := ⟨_, rfl⟩
                  rw [hdd] at cx h16
                  clear hdd
                  have hge : decide (16 ≤ dd) = true := decide_eq_true (by omega)
                  go_wp2_with fail
                  have hcall := err_no 2 2 true (by simp) w10 (HE.out.keep HB10.out)
                  refine hcall.mono ?_
                  clear hcall
                  rintro e w11 ⟨rfl, hb11⟩
                  have HB11 := Lib.hid (keep HB10.out hb11)
                  clear hb11 HB10
                  go_wp2_with fail
                  go_ret
                  exact ⟨rfl, HB11.out⟩
    · rcases (show y < 0 ∨ (0 ≤ y ∧ (n : Int) ≤ y) ∨ (0 ≤ y ∧ y < n ∧ z < 0) ∨ (0 ≤ y ∧ y < n ∧ 0 ≤ z ∧ (n : Int) ≤ z) by omega) with hc | hc | hc | hc
      · have hd1 : decide (y < 0) = true := decide_eq_true (by omega)
        clear hin
        go_wp2_with fail
        go_ret
        exact ⟨rfl, keep HB1.out HB2.out⟩
      · have hd1 : decide (y < 0) = false := decide_eq_false (by omega)
        have hd2 : decide ((n : Int) ≤ y) = true := decide_eq_true (by omega)
        clear hin
        go_wp2_with fail
        go_ret
        exact ⟨rfl, keep HB1.out HB2.out⟩
      · have hd1 : decide (y < 0) = false := decide_eq_false (by omega)
        have hd2 : decide ((n : Int) ≤ y) = false := decide_eq_false (by omega)
        have hd3 : decide (z < 0) = true := decide_eq_true (by omega)
        clear hin
        go_wp2_with fail
        go_ret
        exact ⟨rfl, keep HB1.out HB2.out⟩
      · have hd1 : decide (y < 0) = false := decide_eq_false (by omega)
        have hd2 : decide ((n : Int) ≤ y) = false := decide_eq_false (by omega)
        have hd3 : decide (z < 0) = false := decide_eq_false (by omega)
        have hd4 : decide ((n : Int) ≤ z) = true := decide_eq_true (by omega)
        clear hin
        go_wp2_with fail
        go_ret
        exact ⟨rfl, keep HB1.out HB2.out⟩
  · have HF := Lib.hid hf
    clear hf
    refine (lineNew_bad x A m cap true a b c w1 (HL.out.keep HB1.out) hm v HF.out).mono ?_
    rintro e w2 ⟨rfl, hb2⟩
    have HB2 := Lib.hid (keep HB1.out hb2)
    clear hb2 HB1
    go_wp2_with fail
    go_ret
    exact ⟨rfl, HB2.out⟩

end Go.Proofs.YtbepfmcaolmhgaaDoor


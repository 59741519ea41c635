/- WaysTellM: in one text: WayDef, WayLaw, Short, RagL, RefCosts, FarPlus, RefBell, Shortest, Gone, WayCmp, WayLen, Len, RefGraph, WaysTell. -/
import Derived.Test.YtminfghiejgieaaDoorCost
import Derived.Test.YtminfghiejgieaaDoorFirst
import Derived.Test.YtminfghiejgieaaDoorWaysFew
import Derived.Test.YtminfghiejgieaaDoorRag
import Derived.Test.YtminfghiejgieaaDoorConcat
import Derived.Test.YtminfghiejgieaaDoorCosts
import Derived.Test.YtminfghiejgieaaDoorOwnV
import Derived.Test.YtminfghiejgieaaDoorBase
import Derived.Test.YtminfghiejgieaaDoorBellRun
import Derived.BigQuiet
import Derived.Deep.QuietTactic
import Derived.Test.YtminfghiejgieaaDoorSame
import Derived.Test.YtminfghiejgieaaDoorErr
/- What a way is, and what it comes to. -/
namespace Go.Proofs.YtminfghiejgieaaDoor
open Go.RowKit
set_option linter.unusedVariables false

/-- A way: nodes, each a neighbour of the one ahead. -/
def WayOk (x : Int) (m : Nat) (a b c : Nat → Int) (k : Nat) (f : Nat → Int) : Prop :=
  1 ≤ k ∧ (∀ i, i < k → 0 ≤ f i ∧ f i < x) ∧ ∀ i, i + 1 < k → costV m a b c (f i) (f (i + 1)) ≠ 0 ∧ costV m a b c (f i) (f (i + 1)) ≠ 16

/-- What a way comes to. -/
def wayLen (m : Nat) (a b c : Nat → Int) (f : Nat → Int) : Nat → Int
  | 0 => 0
  | i + 1 => wayLen m a b c f i + (if i = 0 then 0 else costV m a b c (f (i - 1)) (f i))

theorem wayLen_ranged {x : Int} {m : Nat} {a b c : Nat → Int} {f : Nat → Int} (hg : GoodG x m a b c) {k : Nat} (hf : ∀ i, i < k → 0 ≤ f i ∧ f i < x) : ∀ i, i ≤ k → 0 ≤ wayLen m a b c f i ∧ wayLen m a b c f i ≤ 16 * i
  | 0, _ => by unfold wayLen; omega
  | i + 1, h => by
    have ih := wayLen_ranged hg hf i (by omega)
    unfold wayLen
    by_cases h0 : i = 0
    · rw [if_pos h0]; omega
    · rw [if_neg h0]
      have h1 := hf (i - 1) (by omega)
      have h2 := hf i (by omega)
      obtain ⟨p, hp⟩ : ∃ p : Nat, f (i - 1) = p := ⟨(f (i - 1)).toNat, by omega⟩
      obtain ⟨q, hq⟩ : ∃ q : Nat, f i = q := ⟨(f i).toNat, by omega⟩
      have h3 := costV_ranged hg.2.2 p q
      rw [hp, hq]
      omega

end Go.Proofs.YtminfghiejgieaaDoor

/- Ways and the first of the shortest: plain laws. -/
namespace Go.Proofs.YtminfghiejgieaaDoor
open Go.RowKit
set_option linter.unusedVariables false

theorem pick_first {p : Nat → Bool} : ∀ n, 0 < (pickL p n).length → ∃ q : Nat, atL (pickL p n) 0 = q ∧ q < n ∧ p q = true ∧ ∀ x, x < n → p x = true → q ≤ x
  | 0, h => absurd h (by simp [pickL])
  | n + 1, h => by
    by_cases hp : p n = true
    · rw [pickL_yes hp] at h ⊢
      by_cases h0 : 0 < (pickL p n).length
      · obtain ⟨q, h1, h2, h3, h4⟩ := pick_first n h0
        refine ⟨q, ?_, by omega, h3, fun x hx hpx => ?_⟩
        · rw [← h1]
          unfold atL
          rw [List.getD_eq_getElem?_getD, List.getD_eq_getElem?_getD, List.getElem?_append_left h0]
        · by_cases e : x = n
          · omega
          · exact h4 x (by omega) hpx
      · have e0 : pickL p n = [] := List.length_eq_zero_iff.1 (by omega)
        refine ⟨n, ?_, by omega, hp, fun x hx hpx => ?_⟩
        · rw [e0]; rfl
        · by_cases e : x = n
          · omega
          · have : (x : Int) ∈ pickL p n := pickL_mem.2 ⟨by omega, hpx⟩
            rw [e0] at this
            exact absurd this (by simp)
    · have hp' : p n = false := by simpa using hp
      rw [pickL_no hp'] at h ⊢
      obtain ⟨q, h1, h2, h3, h4⟩ := pick_first n h
      refine ⟨q, h1, by omega, h3, fun x hx hpx => ?_⟩
      by_cases e : x = n
      · subst e; exact absurd hpx hp
      · exact h4 x (by omega) hpx

/-- What r steps come to. -/
def lenN (K : Nat → Nat → Int) (g : Nat → Nat) : Nat → Int
  | 0 => 0
  | j + 1 => lenN K g j + K (g j) (g (j + 1))

section
variable {n t : Nat} {K : Nat → Nat → Int} {D : Nat → Int} {g : Nat → Nat}
theorem len_tri (hD : FarD n t K D) : ∀ r, (∀ i, i ≤ r → g i < n) → D (g 0) ≤ lenN K g r + D (g r)
  | 0, _ => by show _ ≤ (0 : Int) + _; omega
  | r + 1, h => by
    have ih := len_tri hD r fun i hi => h i (by omega)
    have h1 := hD.tri (g r) (g (r + 1)) (h r (by omega)) (h (r + 1) (by omega))
    show _ ≤ lenN K g r + K (g r) (g (r + 1)) + _
    omega
/-- No way is shorter. -/
theorem len_least (hD : FarD n t K D) {r : Nat} (h : ∀ i, i ≤ r → g i < n) (he : g r = t) : D (g 0) ≤ lenN K g r := by
  have h1 := len_tri hD r h
  rw [he, hD.zero] at h1
  omega
theorem len_grow (hD : FarD n t K D) (r : Nat) (h : ∀ i, i ≤ r → g i < n) : ∀ d, d ≤ r → lenN K g (r - d) + D (g (r - d)) ≤ lenN K g r + D (g r)
  | 0, _ => Int.le_refl _
  | d + 1, hd => by
    have ih := len_grow hD r h d (by omega)
    obtain ⟨j, hj⟩ : ∃ j, r - d = j + 1 := ⟨r - d - 1, by omega⟩
    have hj2 : r - (d + 1) = j := by omega
    rw [hj] at ih
    rw [hj2]
    have h1 := hD.tri (g j) (g (j + 1)) (h j (by omega)) (h (j + 1) (by omega))
    have h2 : lenN K g (j + 1) = lenN K g j + K (g j) (g (j + 1)) := rfl
    omega
/-- As short as can be: each step leads on. -/
theorem len_tight (hD : FarD n t K D) {r : Nat} (h : ∀ i, i ≤ r → g i < n) (he : g r = t) (hl : lenN K g r = D (g 0)) : ∀ j, j ≤ r → lenN K g j + D (g j) = D (g 0) := by
  intro j hj
  have h1 := len_tri hD j fun i hi => h i (by omega)
  have h2 := len_grow hD r h (r - j) (by omega)
  rw [he, hD.zero, show r - (r - j) = j by omega] at h2
  omega
theorem len_up (hK : CostM n K) (hD : FarD n t K D) {r : Nat} (h : ∀ i, i ≤ r → g i < n) (hs : ∀ i, i < r → K (g i) (g (i + 1)) ≠ 0) (he : g r = t) (hl : lenN K g r = D (g 0)) (h16 : D (g 0) < 16) (h0 : ∀ j, j ≤ r → 0 ≤ lenN K g j) :
    ∀ j, j < r → g j ≠ t ∧ upB t K D (g j) (g (j + 1)) = true := by
  intro j hj
  have e1 := len_tight hD h he hl j (by omega)
  have e2 := len_tight hD h he hl (j + 1) (by omega)
  have e3 : lenN K g (j + 1) = lenN K g j + K (g j) (g (j + 1)) := rfl
  have hn := h j (by omega)
  have hn' := h (j + 1) (by omega)
  have hne : g j ≠ g (j + 1) := fun e => hs j hj (by rw [← e]; exact hK.same _ hn)
  have hpos := hK.low _ _ hn hn' hne
  have hb := hK.back _ _ hn hn'
  have hd0 := hD.low _ hn'
  have hl0 := h0 j (by omega)
  have hnt : g j ≠ t := fun e => by
    have hz := hD.zero
    rw [← e] at hz
    omega
  exact ⟨hnt, decide_eq_true ⟨hnt, fun e => hne e.symm, by omega, by omega⟩⟩
/-- The first way, told by its steps. -/
theorem fst_len (hK : CostM n K) (hD : FarD n t K D) {s : Nat} (hs : s < n) (h16 : D s < 16) {k : Nat} (hk : ∀ j, j < k → fstF n t K D s j ≠ t) :
    ∀ j, j ≤ k → fstF n t K D s j < n ∧ lenN K (fstF n t K D s) j + D (fstF n t K D s j) = D s ∧ 0 ≤ lenN K (fstF n t K D s) j
  | 0, _ => ⟨hs, by show (0 : Int) + D s = D s; omega, Int.le_refl _⟩
  | j + 1, hj => by
    obtain ⟨h1, h2, h3⟩ := fst_len hK hD hs h16 hk j (by omega)
    obtain ⟨h4, h5, h6, h7, h8⟩ := stp_at hK hD h1 (hk j (by omega)) (by omega)
    have e : fstF n t K D s (j + 1) = stpF n t K D (fstF n t K D s j) := rfl
    have hb := hK.back _ _ h1 h6
    have hn := hK.nonneg h1 h6
    have e3 : lenN K (fstF n t K D s) (j + 1) = lenN K (fstF n t K D s) j + K (fstF n t K D s j) (fstF n t K D s (j + 1)) := rfl
    rw [e] at e3
    refine ⟨by rw [e]; exact h6, by rw [e3, e]; omega, by rw [e3]; omega⟩
/-- Of as short ones none stands ahead. -/
theorem fst_least (hK : CostM n K) (hD : FarD n t K D) {s : Nat} (hs : s < n) (h16 : D s < 16) {k : Nat} (hk : ∀ j, j < k → fstF n t K D s j ≠ t) (hkt : fstF n t K D s k = t)
    {r : Nat} (h : ∀ i, i ≤ r → g i < n) (hc : ∀ i, i < r → K (g i) (g (i + 1)) ≠ 0) (h0 : g 0 = s) (he : g r = t) (hl : lenN K g r = D s) (hpos : ∀ j, j ≤ r → 0 ≤ lenN K g j) :
    (∀ i, i ≤ k → i ≤ r → (∀ j, j < i → fstF n t K D s j = g j) → fstF n t K D s i ≤ g i) ∧ ((∀ j, j ≤ k → j ≤ r → fstF n t K D s j = g j) → k ≤ r) := by
  have hup := len_up hK hD h hc he (by rw [h0]; exact hl) (by rw [h0]; exact h16) hpos
  refine ⟨fun i hik hir hj => ?_, fun hall => ?_⟩
  · cases i with
    | zero => show s ≤ g 0; omega
    | succ i =>
      have e := hj i (by omega)
      obtain ⟨h1, h2, h3⟩ := fst_len hK hD hs h16 hk i (by omega)
      have h4 : 0 < (upsL n t K D (fstF n t K D s i)).length := ups_some hK hD h1 (hk i (by omega)) (by omega)
      obtain ⟨q, hq1, hq2, hq3, hq4⟩ := pick_first n h4
      have hu := (hup i (by omega)).2
      rw [← e] at hu
      have hle := hq4 (g (i + 1)) (h (i + 1) (by omega)) hu
      have e2 : fstF n t K D s (i + 1) = q := by
        show (atL (upsL n t K D (fstF n t K D s i)) 0).toNat = q
        have : atL (upsL n t K D (fstF n t K D s i)) 0 = q := hq1
        rw [this]; rfl
      omega
  · by_cases hkr : k ≤ r
    · exact hkr
    · have e := hall r (by omega) (Nat.le_refl _)
      exact absurd (e.trans he) (hk r (by omega))
end

end Go.Proofs.YtminfghiejgieaaDoor

/- The reference's shortest ways: plain laws. -/
namespace Go.Proofs.YtminfghiejgieaaDoor
open Go.RowKit
set_option linter.unusedVariables false

/-- Of those steps below r that are so: the step ahead of each way. -/
def shS (p : Nat → Bool) (a : Nat) (X : Nat → List (List Int)) : Nat → List (List Int)
  | 0 => []
  | k + 1 => shS p a X k ++ if p k = true then (X k).map (fun l => (a : Int) :: l) else []
/-- Which steps it tries. -/
def tryB (K : Nat → Nat → Int) (a : Nat) (d : Int) (k : Nat) : Bool := decide (k ≠ a ∧ K a k ≠ 16 ∧ K a k ≤ d)
/-- The ways found. -/
def shL (n t : Nat) (K : Nat → Nat → Int) : Nat → Nat → Int → List (List Int)
  | 0, a, d => if a = t ∧ d = 0 then [[(t : Int)]] else []
  | f + 1, a, d => if a = t ∧ d = 0 then [[(t : Int)]] else shS (tryB K a d) a (fun k => shL n t K f k (d - K a k)) n

section
variable {p : Nat → Bool} {a : Nat} {X : Nat → List (List Int)}
theorem shS_yes {k : Nat} (h : p k = true) : shS p a X (k + 1) = shS p a X k ++ (X k).map (fun l => (a : Int) :: l) := by
  show shS p a X k ++ _ = _
  rw [if_pos h]
theorem shS_no {k : Nat} (h : p k = false) : shS p a X (k + 1) = shS p a X k := by
  show shS p a X k ++ _ = _
  rw [if_neg (by simp [h])]
  simp
theorem shS_pre {r : Nat} : ∀ s, r ≤ s → ∃ z, shS p a X s = shS p a X r ++ z
  | 0, h => ⟨[], by rw [show r = 0 by omega]; simp⟩
  | s + 1, h => by
    by_cases e : r = s + 1
    · exact ⟨[], by rw [e]; simp⟩
    · obtain ⟨z, hz⟩ := shS_pre (r := r) s (by omega)
      exact ⟨z ++ if p s = true then (X s).map (fun l => (a : Int) :: l) else [], by
        show shS p a X s ++ _ = _
        rw [hz, List.append_assoc]⟩
theorem shS_mono {r s : Nat} (h : r ≤ s) : (shS p a X r).length ≤ (shS p a X s).length := by
  obtain ⟨z, hz⟩ := shS_pre (p := p) (a := a) (X := X) s h
  rw [hz, List.length_append]
  omega
theorem shS_nil : ∀ r, (∀ k, k < r → p k = true → X k = []) → shS p a X r = []
  | 0, _ => rfl
  | r + 1, h => by
    show shS p a X r ++ _ = _
    rw [shS_nil r fun k hk => h k (by omega)]
    split
    · rename_i e
      rw [h r (by omega) e]; rfl
    · rfl
theorem shS_mem {l : List Int} : ∀ r, l ∈ shS p a X r → ∃ k, k < r ∧ ∃ l', l' ∈ X k ∧ l = (a : Int) :: l'
  | 0, h => by cases h
  | r + 1, h => by
    have h' : l ∈ shS p a X r ++ if p r = true then (X r).map (fun l => (a : Int) :: l) else [] := h
    rcases List.mem_append.1 h' with h1 | h1
    · obtain ⟨k, hk, hx⟩ := shS_mem r h1
      exact ⟨k, by omega, hx⟩
    · split at h1
      · obtain ⟨l', h2, rfl⟩ := List.mem_map.1 h1
        exact ⟨r, by omega, l', h2, rfl⟩
      · cases h1
end

section
variable {n t : Nat} {K : Nat → Nat → Int} {D : Nat → Int}
theorem shL_stop (f : Nat) : shL n t K f t 0 = [[(t : Int)]] := by
  cases f <;> simp [shL]
theorem shL_go {f a : Nat} {d : Int} (h : ¬ (a = t ∧ d = 0)) : shL n t K (f + 1) a d = shS (tryB K a d) a (fun k => shL n t K f k (d - K a k)) n := by
  conv => lhs; unfold shL
  rw [if_neg h]
/-- As many as there are. -/
theorem shL_len (hK : CostM n K) : ∀ (f a : Nat) (d : Int), a < n → d ≤ f → ((shL n t K f a d).length : Int) = pth n K f a t d
  | 0, a, d, ha, hd => by
    unfold shL pth
    split <;> rfl
  | f + 1, a, d, ha, hd => by
    by_cases e : a = t ∧ d = 0
    · obtain ⟨rfl, rfl⟩ := e
      rw [shL_stop, pth_zero, if_pos rfl]; rfl
    · rw [shL_go e]
      have key : ∀ r, r ≤ n → (((shS (tryB K a d) a (fun k => shL n t K f k (d - K a k)) r).length : Nat) : Int) = if d = 0 then 0 else sumB (nbB K a) (fun k => pth n K f k t (d - K a k)) r := by
        intro r
        induction r with
        | zero => intro _; split <;> rfl
        | succ r ih =>
          intro hr
          have ih := ih (by omega)
          have hrn : r < n := by omega
          have hs : sumB (nbB K a) (fun k => pth n K f k t (d - K a k)) (r + 1) = sumB (nbB K a) (fun k => pth n K f k t (d - K a k)) r + if nbB K a r = true then pth n K f r t (d - K a r) else 0 := rfl
          by_cases hp : tryB K a d r = true
          · have hp' : r ≠ a ∧ K a r ≠ 16 ∧ K a r ≤ d := of_decide_eq_true hp
            have h1 := hK.low a r ha hrn (fun e => hp'.1 e.symm)
            have h2 := hK.high a r ha hrn
            have hnb : nbB K a r = true := decide_eq_true ⟨hp'.1, by omega⟩
            rw [shS_yes hp, List.length_append, List.length_map, Int.natCast_add, ih, shL_len hK f r _ hrn (by omega), hs, if_pos hnb, if_neg (by omega), if_neg (by omega)]
          · rw [shS_no (by simpa using hp), ih, hs]
            by_cases hnb : nbB K a r = true
            · have h1 := nb_pos hK ha hrn hnb
              have hgt : d < K a r := by
                rcases Int.lt_or_le d (K a r) with h | h
                · exact h
                · exact absurd (decide_eq_true ⟨h1.1, by omega, h⟩) hp
              rw [if_pos hnb, pth_neg hK f r t _ hrn (by omega)]
              simp
            · rw [if_neg hnb]; simp
      rw [key n (Nat.le_refl _)]
      show _ = if d = 0 then (if a = t then 1 else 0) else _
      by_cases h0 : d = 0
      · rw [if_pos h0, if_pos h0, if_neg (fun h => e ⟨h, h0⟩)]
      · rw [if_neg h0, if_neg h0]
/-- Each is of one node or more, and short. -/
theorem shL_row : ∀ (f a : Nat) (d : Int) (l : List Int), l ∈ shL n t K f a d → 1 ≤ l.length ∧ l.length ≤ f + 1
  | 0, a, d, l, h => by
    unfold shL at h
    split at h
    · simp at h; subst h; simp
    · cases h
  | f + 1, a, d, l, h => by
    by_cases e : a = t ∧ d = 0
    · obtain ⟨rfl, rfl⟩ := e
      rw [shL_stop] at h
      simp at h; subst h; simp
    · rw [shL_go e] at h
      obtain ⟨k, -, l', hl', rfl⟩ := shS_mem n h
      have := shL_row f k _ l' hl'
      simp only [List.length_cons]
      omega
/-- Too short: none. -/
theorem shL_none (hK : CostM n K) (hD : FarD n t K D) {f a : Nat} {d : Int} (ha : a < n) (hf : d ≤ f) (h : d < D a) : shL n t K f a d = [] := by
  have := shL_len (t := t) hK f a d ha hf
  rw [pth_short hK hD f a d ha h] at this
  exact List.eq_nil_of_length_eq_zero (by omega)
/-- As many as shortest ways. -/
theorem shL_ways (hK : CostM n K) (hD : FarD n t K D) {f a : Nat} (ha : a < n) (hf : D a ≤ f) (h16 : D a < 16) : ((shL n t K f a (D a)).length : Int) = waysF n t K D a := by
  rw [shL_len hK f a _ ha hf]
  unfold waysF
  rw [if_pos h16]
  exact pth_stable hK f 16 a t _ ha hf (by omega)
theorem shL_most (hK : CostM n K) (hD : FarD n t K D) (ht : t < n) (h8 : n ≤ 8) {f a : Nat} {d : Int} (ha : a < n) (hf : d ≤ f) (h16 : d < 16) (h : d ≤ D a) : (shL n t K f a d).length ≤ 134217728 := by
  rcases Int.lt_or_eq_of_le h with h1 | h1
  · rw [shL_none hK hD ha hf h1]; simp
  · have e := shL_ways (f := f) hK hD ha (by omega) (by omega)
    have := ways_most hK hD ht h8 ha
    rw [h1]
    omega
theorem fst_shift {s : Nat} : ∀ k, fstF n t K D s (k + 1) = fstF n t K D (stpF n t K D s) k
  | 0 => rfl
  | k + 1 => by
    show stpF n t K D (fstF n t K D s (k + 1)) = stpF n t K D (fstF n t K D (stpF n t K D s) k)
    rw [fst_shift k]
/-- None nearer by just the cost stands ahead of the first way's. -/
theorem stp_first (hK : CostM n K) (hD : FarD n t K D) {a : Nat} (ha : a < n) (h1 : a ≠ t) (h2 : D a < 16) {k : Nat} (hk : k < stpF n t K D a) : ¬ upB t K D a k = true := by
  obtain ⟨h0, hF, hp, -, -⟩ := stp_at hK hD ha h1 h2
  obtain ⟨q, hq, -, -, hmin⟩ := pick_first (p := upB t K D a) n h0
  intro hu
  have := hmin k (by omega) hu
  have e : atL (upsL n t K D a) 0 = (q : Int) := hq
  rw [e] at hF
  omega
/-- The first way comes there. -/
theorem fst_end (hK : CostM n K) (hD : FarD n t K D) : ∀ (e a : Nat), a < n → (D a).toNat ≤ e → D a < 16 → ∃ kp, fstF n t K D a kp = t ∧ ∀ j, j < kp → fstF n t K D a j ≠ t
  | e, a, ha, he, h16 => by
    by_cases h0 : a = t
    · exact ⟨0, h0, fun j hj => absurd hj (by omega)⟩
    · obtain ⟨-, -, hp, hpa, hsum⟩ := stp_at hK hD ha h0 h16
      have hc1 := hK.low a _ ha hp (fun e => hpa e.symm)
      have hbk := hK.back a _ ha hp
      have hlowp := hD.low _ hp
      cases e with
      | zero => omega
      | succ e =>
        obtain ⟨kp, h1, h2⟩ := fst_end hK hD e _ hp (by omega) (by omega)
        refine ⟨kp + 1, by rw [fst_shift]; exact h1, fun j hj => ?_⟩
        cases j with
        | zero => exact h0
        | succ j => rw [fst_shift]; exact h2 j (by omega)
/-- The first of them. -/
theorem shL_head (hK : CostM n K) (hD : FarD n t K D) (ht : t < n) : ∀ (f a kp : Nat), a < n → D a ≤ f → D a < 16 → fstF n t K D a kp = t → (∀ j, j < kp → fstF n t K D a j ≠ t) →
    ∃ l rest, shL n t K f a (D a) = l :: rest ∧ l.length = kp + 1 ∧ ∀ j, j ≤ kp → atL l j = (fstF n t K D a j : Nat) := by
  intro f
  induction f with
  | zero =>
    intro a kp ha hf h16 hkt hne
    have h0 : a = t := by
      rcases Nat.decEq a t with h | h
      · have := hD.pos hK ha h; omega
      · exact h
    subst h0
    have hk0 : kp = 0 := by
      rcases Nat.eq_zero_or_pos kp with h | h
      · exact h
      · exact absurd rfl (hne 0 h)
    subst hk0
    rw [hD.zero, shL_stop]
    exact ⟨_, [], rfl, rfl, fun j hj => by rw [show j = 0 by omega]; rfl⟩
  | succ f ih =>
    intro a kp ha hf h16 hkt hne
    by_cases h0 : a = t
    · subst h0
      have hk0 : kp = 0 := by
        rcases Nat.eq_zero_or_pos kp with h | h
        · exact h
        · exact absurd rfl (hne 0 h)
      subst hk0
      rw [hD.zero, shL_stop]
      exact ⟨_, [], rfl, rfl, fun j hj => by rw [show j = 0 by omega]; rfl⟩
    · obtain ⟨-, -, hp, hpa, hsum⟩ := stp_at hK hD ha h0 h16
      obtain ⟨q, rfl⟩ : ∃ q, kp = q + 1 := ⟨kp - 1, by
        rcases Nat.eq_zero_or_pos kp with h | h
        · subst h; exact absurd hkt h0
        · omega⟩
      have hc1 := hK.low a _ ha hp (fun e => hpa e.symm)
      have hbk := hK.back a _ ha hp
      have hlowp := hD.low _ hp
      rw [fst_shift] at hkt
      obtain ⟨l, rest, hl, hlen, hat⟩ := ih (stpF n t K D a) q hp (by omega) (by omega) hkt (fun j hj => by have := hne (j + 1) (by omega); rwa [fst_shift] at this)
      have e1 : ¬ (a = t ∧ D a = 0) := fun h => h0 h.1
      rw [shL_go e1]
      have hnil : shS (tryB K a (D a)) a (fun k => shL n t K f k (D a - K a k)) (stpF n t K D a) = [] := by
        refine shS_nil _ fun k hk ht2 => ?_
        have hkn : k < n := by omega
        have ht' : k ≠ a ∧ K a k ≠ 16 ∧ K a k ≤ D a := of_decide_eq_true ht2
        have h1 := hK.low a k ha hkn (fun e => ht'.1 e.symm)
        have h2 := hD.tri a k ha hkn
        have h3 := hK.back a k ha hkn
        refine shL_none hK hD hkn (by omega) ?_
        rcases Int.lt_or_eq_of_le (show D a - K a k ≤ D k by omega) with h | h
        · exact h
        · exact absurd (decide_eq_true ⟨h0, ht'.1, h16, by omega⟩) (stp_first hK hD ha h0 h16 hk)
      have htry : tryB K a (D a) (stpF n t K D a) = true := decide_eq_true ⟨hpa, by omega, by omega⟩
      have h2 : shS (tryB K a (D a)) a (fun k => shL n t K f k (D a - K a k)) (stpF n t K D a + 1) = ((a : Int) :: l) :: rest.map (fun l => (a : Int) :: l) := by
        rw [shS_yes htry, hnil, show D a - K a (stpF n t K D a) = D (stpF n t K D a) by omega, hl]
        rfl
      obtain ⟨z, hz⟩ := shS_pre (p := tryB K a (D a)) (a := a) (X := fun k => shL n t K f k (D a - K a k)) (r := stpF n t K D a + 1) n (by omega)
      rw [hz, h2]
      refine ⟨(a : Int) :: l, _, rfl, by simp [hlen], fun j hj => ?_⟩
      cases j with
      | zero => rfl
      | succ j =>
        rw [fst_shift, ← hat j (by omega)]
        rfl
end

end Go.Proofs.YtminfghiejgieaaDoor

/- A list of ways that the call itself makes by appends. -/
namespace Go.Proofs.YtminfghiejgieaaDoor
open Go.RowKit
set_option linter.unusedVariables false

/-- v is the list of ways Ls. -/
def RL (w : World) (base : Nat) (v : Value) (Ls : List (List Int)) : Prop := Rag w base v Ls.length (fun r => (Ls.getD r []).length) (fun r => atL (Ls.getD r []))

section
variable {w w' : World} {base : Nat} {v : Value} {Ls : List (List Int)}
theorem Rag.congr {i : Nat} {L L' : Nat → Nat} {f f' : Nat → Nat → Int} (h : Rag w base v i L f) (e : ∀ r, r < i → L r = L' r ∧ f r = f' r) : Rag w base v i L' f' := by
  obtain ⟨V, h1, h2⟩ := h
  exact ⟨V, h1, fun r hr => by rw [← (e r hr).1, ← (e r hr).2]; exact h2 r hr⟩
theorem Rag.own {i : Nat} {L : Nat → Nat} {f : Nat → Nat → Int} (h : Rag w base v i L f) {g : Nat} (e : v.ownBlock = some g) : base ≤ g ∧ g < w.heap.size := by
  obtain ⟨V, h2, -⟩ := h
  rcases h2.2 with ⟨hv, h0⟩ | ⟨g', cap, cur, hv, hb, hg, hnc, hcm, hcs, htake⟩
  · rw [hv] at e; cases e
  · rw [hv] at e
    have e' : g' = g := by simpa [Value.ownBlock] using e
    subst e'
    exact ⟨hb, (Array.getElem?_eq_some_iff.1 hg).1⟩
/-- A list of one way, of one node. -/
theorem RL.single (w : World) (base : Nat) (hb : base ≤ w.heap.size) (x : Int) :
    RL ((w.alloc (.cells #[.int .i64 x] 3)).alloc (.cells #[.slice (some ⟨w.heap.size, 0, none⟩) 1 1] 24)) base (.slice (some ⟨w.heap.size + 1, 0, none⟩) 1 1) [[x]] := by
  refine ⟨fun _ => .slice (some ⟨w.heap.size, 0, none⟩) 1 1, ?_, fun r hr => ?_⟩
  · refine ⟨rfl, .inr ⟨w.heap.size + 1, 1, #[.slice (some ⟨w.heap.size, 0, none⟩) 1 1], rfl, by omega, ?_, Nat.le_refl _, by unfold maxLen; omega, rfl, rfl⟩⟩
    have h := heap_alloc_new (w.alloc (.cells #[.int .i64 x] 3)) (.cells #[.slice (some ⟨w.heap.size, 0, none⟩) 1 1] 24)
    rwa [show (w.alloc (.cells #[.int .i64 x] 3)).heap.size = w.heap.size + 1 from by simp] at h
  · have e : r = 0 := by simp at hr; omega
    subst e
    exact (OwnV.single w base hb x (atL [x]) rfl).alloc _
/-- Where the list lies is no other's block. -/
def Apart (v : Value) (lo hi : Nat) : Prop := ∀ g, v.ownBlock = some g → g < lo ∨ hi ≤ g
end

/-- An append of numbers that lie somewhere. -/
theorem wpList_append_ints {w : World} {ops : Array Oper} {rest : List Oper} {o : Oper} {a : Act} {Q : Exit → Act → World → Prop} (hgd : o.guard = none) (s x : Operand)
    (ho : o.op = .call { callee := .builtin .append, args := #[s, x], argTypes := #[24, 24] })
    (base : Nat) (v : Value) (n : Nat) (f : Nat → Int) (hs : a.eval s = v) (hT : OwnV w base v n f) (ad : Addr) (l c : Nat) (g : Nat → Int) (hx : a.eval x = .slice (some ad) l c)
    (hV : Vec w (some ad) l g) (hn : n ≤ 1000000) (hl : l ≤ 1000000) (hbase : base ≤ w.heap.size)
    (h : ∀ v' w', OwnV w' base v' (n + l) (fun j => if j < n then f j else g (j - n)) → Below base w w' → wpList Tryd.prog ops Q rest (a.put o.dst v') w') :
    wpList Tryd.prog ops Q (o :: rest) a w := by
  obtain ⟨i0, hi0, hz0, hz1, hz2⟩ := info_parts infoIntV
  refine wpList_append_own_at w hgd s x 24 ho base 3 i0 _ 1 8 Tryd.underlying24 hi0 hz0 hz1 hz2 rfl (by decide) v n _ hs hT ad l c ((List.range l).map fun j => Value.int .i64 (g j)) hx (by simp) hV.news (by intro u hu; obtain ⟨_, _, rfl⟩ := List.mem_map.1 hu; rfl) (by unfold maxLen; omega) (by omega) hbase ?_
  intro v' w' ho1 hg1 _ _
  refine h v' w' ?_ ((Below.refl base w).grown hg1 hbase fun b hb => (hT.lt b hb).1)
  unfold OwnV
  have e := map_range_add n l (fun j => Value.int .i64 (if j < n then f j else g (j - n)))
  have e1 : (List.range n).map (fun j => Value.int .i64 (if j < n then f j else g (j - n))) = (List.range n).map fun j => Value.int .i64 (f j) := List.map_congr_left fun j hj => by rw [if_pos (List.mem_range.1 hj)]
  have e2 : (List.range l).map (fun j => Value.int .i64 (if n + j < n then f (n + j) else g (n + j - n))) = (List.range l).map fun j => Value.int .i64 (g j) := List.map_congr_left fun j hj => by rw [if_neg (by omega), show n + j - n = j by omega]
  rw [e1, e2] at e
  rw [← e]
  exact ho1

/-- An append of one way. -/
theorem wpList_append_rl {w : World} {ops : Array Oper} {rest : List Oper} {o : Oper} {a : Act} {Q : Exit → Act → World → Prop} (hgd : o.guard = none) (s x : Operand)
    (ho : o.op = .call { callee := .builtin .append, args := #[s, x], argTypes := #[34, 34] })
    (base : Nat) (v : Value) (Ls : List (List Int)) (hs : a.eval s = v) (hT : RL w base v Ls)
    (u : Value) (k : List Int) (hrow : OwnV w base u k.length (atL k)) (ad : Addr) (hx : a.eval x = .slice (some ad) 1 1)
    (hnew : ∀ j u', [u][j]? = some u' → w.cell? (ad.add j) = some u') (hi : Ls.length ≤ 1000000000000) (hbase : base ≤ w.heap.size) (lo hi' : Nat) (hhi : hi' ≤ w.heap.size) (hap : Apart v lo hi')
    (h : ∀ v' w', RL w' base v' (Ls ++ [k]) → Below base w w' → Apart v' lo hi' → (∀ b, lo ≤ b → b < hi' → w'.heap[b]? = w.heap[b]?) → wpList Tryd.prog ops Q rest (a.put o.dst v') w') :
    wpList Tryd.prog ops Q (o :: rest) a w := by
  have hT0 := hT
  obtain ⟨V, hown, hr⟩ := hT
  obtain ⟨i0, hi0, hz0, hz1, hz2⟩ := info_parts infoRow
  have hu1 : u.oneCell' = true := by
    rcases hrow.form with ⟨-, rfl⟩ | ⟨g, c, rfl, -⟩ <;> simp [Value.oneCell']
  refine wpList_append_own_at w hgd s x 34 ho base 24 i0 _ 1 24 Tryd.underlying34 hi0 hz0 hz1 hz2 rfl (by decide) v Ls.length _ hs hown ad 1 1 [u] hx rfl hnew (by simpa using hu1) (by unfold maxLen; omega) (by omega) hbase ?_
  intro v' w' ho1 hg1 _ hat1
  have hkeep : ∀ {z : Value} {n : Nat} {F : Nat → Int}, OwnV w base z n F → OwnV w' base z n F := by
    intro z n F hz
    refine ⟨hz.1, ?_⟩
    rcases hz.2 with h' | ⟨g, cap, cur, hv, hb, hg, hrest⟩
    · exact .inl h'
    · refine .inr ⟨g, cap, cur, hv, hb, ?_, hrest⟩
      rw [hg1.block g (Array.getElem?_eq_some_iff.1 hg).1 fun e => ?_]
      · exact hg
      · rcases hown.2 with ⟨hv2, _⟩ | ⟨g2, cap2, cur2, hv2, hb2, hg2, _⟩
        · rw [hv2] at e; cases e
        · rw [hv2] at e
          have e' : g = g2 := by simpa [Value.ownBlock] using e
          subst e'
          rw [hg] at hg2
          simp at hg2
  refine h v' w' ?_ ((Below.refl base w).grown hg1 hbase fun b hb => (hT0.own hb).1) ?_ fun b h1 h2 => hg1.block b (by omega) fun e => ?_
  · unfold RL
    rw [List.length_append]
    refine ⟨fun r => if r = Ls.length then u else V r, ?_, fun r hlt => ?_⟩
    · show w'.ownsRow base 24 1 v' (Ls.length + 1) ((List.range (Ls.length + 1)).map _)
      rw [List.range_succ, List.map_append]
      have e1 : (List.range Ls.length).map (fun r => if r = Ls.length then u else V r) = (List.range Ls.length).map V := by
        apply List.map_congr_left
        intro j hj
        have := List.mem_range.1 hj
        rw [if_neg (by omega)]
      rw [e1]
      simpa using ho1
    · by_cases hri : r = Ls.length
      · subst hri
        simp only [if_true]
        have e : (Ls ++ [k]).getD Ls.length [] = k := by simp
        rw [e]
        exact hkeep hrow
      · simp only [if_neg hri]
        have hlt' : r < Ls.length := by simp at hlt; omega
        have e : (Ls ++ [k]).getD r [] = Ls.getD r [] := by
          rw [List.getD_eq_getElem?_getD, List.getD_eq_getElem?_getD, List.getElem?_append_left hlt']
        rw [e]
        exact hkeep (hr r hlt')
  · intro g hg
    rcases hat1 with e | e
    · exact hap g (e ▸ hg)
    · rw [e] at hg
      injection hg with hg
      omega
  · have := hap b e.symm
    omega

end Go.Proofs.YtminfghiejgieaaDoor

/- The walk of the reference's CostsOf. -/
namespace Go.Proofs.YtminfghiejgieaaDoor
open Go.RowKit
set_option linter.unusedVariables false

theorem OwnV.row {w : World} {base n : Nat} {v : Value} {f : Nat → Int} (h1 : 1 ≤ n) (h : OwnV w base v n f) : ∃ g c, v = .slice (some ⟨g, 0, none⟩) n c ∧ base ≤ g ∧ RowP w g 3 n fun i => .int .i64 (f i) := by
  rcases h.form with ⟨rfl, -⟩ | ⟨g, c, e, hb, -, -, hr⟩
  · omega
  · exact ⟨g, c, e, hb, hr⟩

theorem RowP.congrI {w : World} {g n : Nat} {f f' : Nat → Int} (h : RowP w g 3 n fun i => .int .i64 (f i)) (e : ∀ i, i < n → f i = f' i) : RowP w g 3 n fun i => .int .i64 (f' i) :=
  h.congr fun i hi => by rw [e i hi]

set_option maxRecDepth 100000 in
set_option maxHeartbeats 2000000 in
theorem costsOf_walk (n : Nat) (x : Int) (hx : x = (n : Int)) (A : Option Addr) (m cp : Nat) (a b c : Nat → Int) (w : World) (hl : Lnk w A m a b c) (h1 : 1 ≤ n) (h8 : n ≤ 8) (hm : m ≤ 9223372036854775807) :
    Calls Tryd.prog 44 #[.int .i64 x, .slice A m cp] w fun e w' => ∃ v, e = .returned v ∧ Tab w' w.heap.size v n n (costF m a b c) ∧ Below w.heap.size w w' := by
  subst hx
  have h1' : (1 : Int) ≤ n := by omega
  have h8' : (n : Int) ≤ 8 := by omega
  have HL := Lib.hid hl
  clear hl
  go_enter Tryd.func44, Tryd.ntmps44
  go_wp2_with fail
  go_loopw [5, 6] (fun v i wr => ∃ r : Nat, r ≤ n ∧ i = .int .i64 r ∧ Tab wr w.heap.size v r n (costF m a b c) ∧ Below w.heap.size w wr) (fun _ i _ => n - (intOf i).toNat)
  case atStart => exact ⟨0, by omega, rfl, Tab.nil _ _ _ _, Below.refl _ _⟩
  case round =>
    obtain ⟨r, hr, rfl, hT, hb⟩ := hrel
    obtain ⟨wo, hwo⟩ : ∃ wo, wo = wr := ⟨_, rfl⟩
    subst hwo
    have HT := Lib.hid hT
    have HB := Lib.hid hb
    clear hT hb
    by_cases hlt : r < n
    · have hlt' : (r : Int) < n := by omega
      go_wp2_with fail
      go_loopw [7, 8] (fun v i wj => ∃ q : Nat, q ≤ n ∧ i = .int .i64 q ∧ OwnV wj wo.heap.size v q (costF m a b c r) ∧ Below wo.heap.size wo wj) (fun _ i _ => n - (intOf i).toNat)
      case atStart => exact ⟨0, by omega, rfl, OwnV.nil _ _ _, Below.refl _ _⟩
      case round =>
        obtain ⟨q, hq, rfl, hV, hbj⟩ := hrel
        have HV := Lib.hid hV
        have HBJ := Lib.hid hbj
        clear hV hbj
        by_cases hqn : q < n
        · have hqn' : (q : Int) < n := by omega
          obtain ⟨z, hz⟩ : ∃ z, costV m a b c r q = z := ⟨_, rfl⟩
          have HZ := Lib.hid hz
          clear hz
          have hcall := costOf_walk A m cp a b c r q wr (HL.out.keep (keep HB.out HBJ.out)) hm z HZ.out
          go_wp2_with fail
          refine hcall.mono ?_
          clear hcall
          rintro e w5 ⟨rfl, h5⟩
          subst w5
          go_wp2_with (at_builtin; refine wpList_append_int rfl (.tmp 19) (.tmp 24) rfl wo.heap.size _ q _ rfl (HV.out.alloc _) z ⟨wr.heap.size, 0, none⟩ rfl (cell_new_at _ _ _ rfl) (by omega) (Nat.le_trans HBJ.out.size (by simp)) ?_)
          intro g cap w6 hV6 hb6 _ _
          have HV6 := Lib.hid (hV6.congr (f' := costF m a b c r) fun j hj => by
            unfold upd
            by_cases e : j = q
            · rw [if_pos e, e]; exact HZ.out.symm
            · rw [if_neg e])
          have HB6 := Lib.hid ((HBJ.out.alloc HBJ.out.size _).trans hb6)
          clear hV6 hb6
          go_wp2_with fail
          go_roundw
          case rel => exact ⟨q + 1, by omega, by go_num, HV6.out, HB6.out⟩
          case measure => simp [intOf]; omega
        · obtain rfl : q = n := by omega
          obtain ⟨g, cg, rfl, hg, hrow⟩ := HV.out.row h1
          have HG := Lib.hid hg
          have HROW := Lib.hid hrow
          clear hg hrow
          go_wp2_with (at_builtin; refine wpList_append_tab rfl (.tmp 26) (.tmp 28) rfl wo w.heap.size _ r q (costF m a b c) rfl HT.out (HBJ.out.alloc HBJ.out.size _) g cg HG.out (HROW.out.alloc _) _ rfl (cell_new_at _ _ _ rfl) (by omega) HB.out.size ?_)
          intro v2 w2 hT2 hb2
          have HT2 := Lib.hid hT2
          have HB2 : Hid (Below w.heap.size w w2) := (HB.out.trans (((HBJ.out.alloc HBJ.out.size _).mono HB.out.size))).trans hb2
          clear hT2 hb2
          go_wp2_with fail
          go_roundw
          case rel => exact ⟨r + 1, by omega, by go_num, HT2.out, HB2.out⟩
          case measure => simp [intOf]; omega
    · obtain rfl : r = n := by omega
      go_wp2_with fail
      go_ret
      exact ⟨_, rfl, HT.out, HB.out⟩

end Go.Proofs.YtminfghiejgieaaDoor

/- The walks of the reference's Far and Plus. -/
namespace Go.Proofs.YtminfghiejgieaaDoor
open Go.RowKit
set_option linter.unusedVariables false

attribute [local go_sem high] run_min_pair

theorem plus_walk (a b : Int) (w : World) (ha : 0 ≤ a) (ha' : a ≤ 16) (hb : 0 ≤ b) (hb' : b ≤ 16) : Calls Tryd.prog 49 #[.int .i64 a, .int .i64 b] w fun e w' => e = .returned (.int .i64 (min (a + b) 16)) ∧ w' = w := by
  go_enter Tryd.func49, Tryd.ntmps49
  go_wp2_with fail
  go_ret
  exact ⟨rfl, rfl⟩

end Go.Proofs.YtminfghiejgieaaDoor

/- The walks of the reference's Repeat, StartOf, RoundOf, FarOf. -/
namespace Go.Proofs.YtminfghiejgieaaDoor
open Go.RowKit
set_option linter.unusedVariables false

set_option maxRecDepth 100000 in
set_option maxHeartbeats 1000000 in
theorem refRepeat_walk (z : Int) (n : Nat) (x : Int) (hx : x = (n : Int)) (w : World) (hn : n ≤ 1000000) :
    Calls Tryd.prog 46 #[.int .i64 z, .int .i64 x] w fun e w' => ∃ v, e = .returned v ∧ OwnV w' w.heap.size v n (fun _ => z) ∧ Below w.heap.size w w' := by
  subst hx
  have hn' : (n : Int) ≤ 1000000 := by omega
  go_enter Tryd.func46, Tryd.ntmps46
  go_wp2_with fail
  go_loopw [5, 6] (fun v i wr => ∃ q : Nat, q ≤ n ∧ i = .int .i64 q ∧ OwnV wr w.heap.size v q (fun _ => z) ∧ Below w.heap.size w wr) (fun _ i _ => n - (intOf i).toNat)
  case atStart => exact ⟨0, by omega, rfl, OwnV.nil _ _ _, Below.refl _ _⟩
  case round =>
    obtain ⟨q, hq, rfl, hT, hb⟩ := hrel
    have HT := Lib.hid hT
    have HB := Lib.hid hb
    clear hT hb
    by_cases hlt : q < n
    · have hlt' : (q : Int) < n := by omega
      go_wp2_with (at_builtin; refine wpList_append_int rfl (.tmp 12) (.tmp 14) rfl w.heap.size _ q _ rfl (HT.out.alloc _) z ⟨wr.heap.size, 0, none⟩ rfl (cell_new_at _ _ _ rfl) (by omega) (by have := HB.out.size; simp; omega) ?_)
      intro g cap w6 hV6 hb6 _ _
      have HV6 := Lib.hid (hV6.congr (f' := fun _ => z) fun j hj => by
        unfold upd
        split <;> rfl)
      have HB6 := Lib.hid ((HB.out.alloc HB.out.size _).trans hb6)
      clear hV6 hb6
      go_wp2_with fail
      go_roundw
      case rel => exact ⟨q + 1, by omega, by go_num, HV6.out, HB6.out⟩
      case measure => simp [intOf]; omega
    · obtain rfl : q = n := by omega
      go_wp2_with fail
      go_ret
      exact ⟨_, rfl, HT.out, HB.out⟩

set_option maxRecDepth 100000 in
set_option maxHeartbeats 1000000 in
theorem startOf_walk (n t : Nat) (x y : Int) (hx : x = (n : Int)) (hy : y = (t : Int)) (w : World) (ht : t < n) (hn : n ≤ 1000000) :
    Calls Tryd.prog 45 #[.int .i64 x, .int .i64 y] w fun e w' => ∃ g c, e = .returned (.slice (some ⟨g, 0, none⟩) n c) ∧ w.heap.size ≤ g ∧ RowP w' g 3 n (fun i => .int .i64 (startF t i)) ∧ Below w.heap.size w w' := by
  subst hx
  subst hy
  have ht' : (t : Int) < n := by omega
  have hn' : (n : Int) ≤ 1000000 := by omega
  go_enter Tryd.func45, Tryd.ntmps45
  go_wp2_with fail
  have hcall := refRepeat_walk 16 n n rfl w hn
  refine hcall.mono ?_
  clear hcall
  rintro e w1 ⟨v1, rfl, hV, hb1⟩
  obtain ⟨g, c, rfl, hg, hrow⟩ := hV.row (by omega)
  have hc := hrow.cell ht
  have hf := hrow.frozen t
  have HR := Lib.hid ((hrow.set t (.int .i64 0)).congr (f' := fun i => .int .i64 (startF t i)) fun i hi => by
    unfold upd startF
    by_cases e : i = t
    · rw [if_pos e, if_pos e]
    · rw [if_neg e, if_neg e])
  have HB := Lib.hid (hb1.setCell (p := ⟨g, t, none⟩) hg (.int .i64 0))
  have HG := Lib.hid hg
  clear hV hb1 hg hrow
  go_wp2_with fail
  go_ret
  exact ⟨g, c, rfl, HG.out, HR.out, HB.out⟩

/-- What a node thinks, of the first q nodes. -/
def refR (K : Nat → Nat → Int) (d : Nat → Int) (i : Nat) : Nat → Int
  | 0 => 16
  | q + 1 => if q ≠ i ∧ K i q < 16 then min (refR K d i q) (min (K i q + d q) 16) else refR K d i q

theorem refR_yes {K : Nat → Nat → Int} {d : Nat → Int} {i q : Nat} (h1 : q ≠ i) (h2 : K i q < 16) : refR K d i (q + 1) = min (refR K d i q) (min (K i q + d q) 16) := if_pos ⟨h1, h2⟩
theorem refR_no {K : Nat → Nat → Int} {d : Nat → Int} {i q : Nat} (h : q = i ∨ ¬ K i q < 16) : refR K d i (q + 1) = refR K d i q := if_neg fun ⟨h1, h2⟩ => h.elim h1 fun h => h h2
theorem refR_le {K : Nat → Nat → Int} {d : Nat → Int} {i : Nat} : ∀ q, refR K d i q ≤ 16
  | 0 => Int.le_refl _
  | q + 1 => by
    have ih := refR_le (K := K) (d := d) (i := i) q
    unfold refR
    split <;> omega
theorem refR_low {K : Nat → Nat → Int} {d : Nat → Int} {i k : Nat} (h1 : k ≠ i) (h2 : K i k < 16) : ∀ q, k < q → refR K d i q ≤ K i k + d k
  | 0, h => absurd h (by omega)
  | q + 1, h => by
    by_cases e : k = q
    · subst e
      rw [refR_yes h1 h2]
      omega
    · have ih := refR_low (d := d) h1 h2 q (by omega)
      unfold refR
      split <;> omega
theorem refR_is {K : Nat → Nat → Int} {d : Nat → Int} {i : Nat} : ∀ q, refR K d i q = 16 ∨ ∃ k, k < q ∧ k ≠ i ∧ K i k < 16 ∧ refR K d i q = K i k + d k
  | 0 => .inl rfl
  | q + 1 => by
    have ih := refR_is (K := K) (d := d) (i := i) q
    have ih' : refR K d i q = 16 ∨ ∃ k, k < q + 1 ∧ k ≠ i ∧ K i k < 16 ∧ refR K d i q = K i k + d k := by
      rcases ih with h | ⟨k, hk, h⟩
      · exact .inl h
      · exact .inr ⟨k, by omega, h⟩
    by_cases h : q ≠ i ∧ K i q < 16
    · rw [refR_yes h.1 h.2]
      rcases Int.le_total (K i q + d q) 16 with h16 | h16
      · rw [Int.min_eq_left h16]
        rcases Int.le_total (refR K d i q) (K i q + d q) with h2 | h2
        · rw [Int.min_eq_left h2]; exact ih'
        · rw [Int.min_eq_right h2]; exact .inr ⟨q, by omega, h.1, h.2, rfl⟩
      · rw [Int.min_eq_right h16, Int.min_eq_left (refR_le q)]; exact ih'
    · rw [show refR K d i (q + 1) = refR K d i q from if_neg h]; exact ih'

/-- The reference's round is the program's. -/
theorem ref_round {n m t i : Nat} {a b c d : Nat → Int} (hr : Right n m a b c) (hd : RangedV n d) (hi : i < n) : (if i = t then 0 else refR (costF m a b c) d i n) = roundTo t a b c d m i := by
  obtain ⟨h1, h2, h3⟩ := roundTo_round (t := t) (d := d) hr i hi
  have hR := (roundTo_round (t := t) hr).ranged (edge_good hr) hd i hi
  unfold startF at h1 h3
  by_cases e : i = t
  · rw [if_pos e] at h1 ⊢
    omega
  · rw [if_neg e] at h1 h3 ⊢
    refine Int.le_antisymm ?_ ?_
    · rcases h3 with h3 | ⟨v, k, he, h3⟩
      · rw [h3]; exact refR_le n
      · rw [h3]
        obtain ⟨-, hv, hne, -, h15⟩ := he.ok hr
        have ek : costF m a b c i v = k := costV_edge hr he
        rw [← ek]
        exact refR_low (fun e => hne e.symm) (by omega) n hv
    · rcases refR_is (K := costF m a b c) (d := d) (i := i) n with h | ⟨k, hk, hne, hlt, h⟩
      · rw [h]; exact h1
      · rw [h]
        exact h2 k _ (by
          rcases costV_cases hr i k with ⟨e, -⟩ | ⟨-, e, -⟩ | ⟨-, he⟩
          · exact absurd e.symm hne
          · have : costF m a b c i k = 16 := e
            omega
          · exact he)

attribute [local go_sem high] run_min_pair

set_option maxRecDepth 100000 in
set_option maxHeartbeats 2000000 in
theorem roundOf_walk (n t : Nat) (x y : Int) (hx : x = (n : Int)) (hy : y = (t : Int)) (A D : Option Addr) (m cp cd : Nat) (a b c d : Nat → Int) (w : World) (hl : Lnk w A m a b c) (hd : Vec w D n d) (hm : m ≤ 9223372036854775807) (h1 : 1 ≤ n) (h8 : n ≤ 8) (hr : Right n m a b c) (hR : RangedV n d) (ht : t < n) :
    Calls Tryd.prog 56 #[.int .i64 x, .slice A m cp, .int .i64 y, .slice D n cd] w fun e w' => ∃ g cg, e = .returned (.slice (some ⟨g, 0, none⟩) n cg) ∧ w.heap.size ≤ g ∧ RowP w' g 3 n (fun i => .int .i64 (roundTo t a b c d m i)) ∧ Below w.heap.size w w' := by
  subst hx
  subst hy
  have h8' : (n : Int) ≤ 8 := by omega
  have HL := Lib.hid hl
  have HD := Lib.hid hd
  have HR := Lib.hid hr
  have HV := Lib.hid hR
  clear hl hd hr hR
  go_enter Tryd.func56, Tryd.ntmps56
  go_wp2_with fail
  go_loopw [9, 10] (fun v i wr => ∃ r : Nat, r ≤ n ∧ i = .int .i64 r ∧ OwnV wr w.heap.size v r (roundTo t a b c d m) ∧ Below w.heap.size w wr) (fun _ i _ => n - (intOf i).toNat)
  case atStart => exact ⟨0, by omega, rfl, OwnV.nil _ _ _, Below.refl _ _⟩
  case round =>
    obtain ⟨r, hrn, rfl, hT, hb⟩ := hrel
    obtain ⟨wo, hwo⟩ : ∃ wo, wo = wr := ⟨_, rfl⟩
    subst hwo
    have HT := Lib.hid hT
    have HB := Lib.hid hb
    clear hT hb
    by_cases hlt : r < n
    · have hlt' : (r : Int) < n := by omega
      go_wp2_with fail
      go_loopw [11, 12] (fun v i wj => ∃ q : Nat, q ≤ n ∧ i = .int .i64 q ∧ (∃ z, v = .int .i64 z ∧ Hid (refR (costF m a b c) d r q = z) ∧ z ≤ 16) ∧ ∃ N, wj = wo.drewN N) (fun _ i _ => n - (intOf i).toNat)
      case atStart => exact ⟨0, by omega, rfl, ⟨16, rfl, Lib.hid rfl, by omega⟩, 0, rfl⟩
      case round =>
        obtain ⟨q, hq, rfl, ⟨z, rfl, hz, hz16⟩, N, rfl⟩ := hrel
        have HZ := hz
        clear hz
        by_cases hqn : q < n
        · have hqn' : (q : Int) < n := by omega
          obtain ⟨ad, rfl, hadb, hc0⟩ := (HD.out.keep HB.out) q hqn
          obtain ⟨u, hu⟩ : ∃ u, d q = u := ⟨_, rfl⟩
          have hur := HV.out q hqn
          rw [hu] at hc0 hur
          obtain ⟨hu0, hu1⟩ := hur
          obtain ⟨k, hk⟩ : ∃ k, costV m a b c r q = k := ⟨_, rfl⟩
          have hkr := costV_ranged HR.out r q
          rw [hk] at hkr
          obtain ⟨hk0, hk1⟩ := hkr
          have HK := Lib.hid hk
          have HU := Lib.hid hu
          clear hk hu
          by_cases hqr : q = r
          · have hdn : ((q : Int) != r) = false := by simp [hqr]
            have hdn' : (q != r) = false := by simp [hqr]
            have HZ1 : Hid (refR (costF m a b c) d r (q + 1) = z) := by rw [refR_no (.inl hqr)]; exact HZ.out
            clear hqr
            go_wp2_with fail
            go_roundw
            case rel => exact ⟨q + 1, by omega, by go_num, ⟨z, rfl, HZ1, hz16⟩, N, rfl⟩
            case measure => simp [intOf]; omega
          · have hdb : ((q : Int) == r) = false := beq_false_of_ne (by omega)
            have hdb' : (q == r) = false := beq_false_of_ne hqr
            have hdn : ((q : Int) != r) = true := by simp; omega
            have hdn' : (q != r) = true := by simp; omega
            have HQR := Lib.hid hqr
            clear hqr
            by_cases h16 : k < 16
            · have HZ1 : Hid (refR (costF m a b c) d r (q + 1) = min z (min (k + u) 16)) := by
                have hh : costF m a b c r q < 16 := by show costV m a b c r q < 16; rw [HK.out]; exact h16
                rw [refR_yes HQR.out hh, HZ.out, HU.out]
                show min z (min (costV m a b c r q + u) 16) = _
                rw [HK.out]
              go_wp2_with fail
              refine (costOf_walk (A) m cp a b c r q _ ((HL.out.keep HB.out).drewN N) hm k HK.out).mono ?_
              rintro e w6 ⟨rfl, h6⟩
              subst w6
              go_wp2_with fail
              go_quiet ((first | (go_at_call 55; exact quiet_adds ((costOf_walk A m cp a b c r q _ ((HL.out.keep HB.out).drewN _) hm k HK.out).mono fun _ _ h => ⟨h.1, 0, h.2⟩)) | (go_at_call 49; exact quiet_adds ((plus_walk k u _ hk0 hk1 hu0 hu1).mono fun _ _ h => ⟨h.1, 0, h.2⟩))))
              go_wp2_with fail
              go_roundw
              case rel => exact ⟨q + 1, by omega, by go_num, ⟨_, rfl, HZ1, by omega⟩, _, rfl⟩
              case measure => simp [intOf]; omega
            · have hd16 : decide (k < 16) = false := decide_eq_false h16
              have HZ1 : Hid (refR (costF m a b c) d r (q + 1) = z) := by
                have hh : ¬ costF m a b c r q < 16 := by show ¬ costV m a b c r q < 16; rw [HK.out]; exact h16
                rw [refR_no (.inr hh)]; exact HZ.out
              clear h16
              go_wp2_with fail
              refine (costOf_walk (A) m cp a b c r q _ ((HL.out.keep HB.out).drewN N) hm k HK.out).mono ?_
              rintro e w6 ⟨rfl, h6⟩
              subst w6
              go_wp2_with fail
              go_roundw
              case rel => exact ⟨q + 1, by omega, by go_num, ⟨z, rfl, HZ1, hz16⟩, N, rfl⟩
              case measure => simp [intOf]; omega
        · obtain rfl : n = q := by omega
          have HE := Lib.hid (ref_round (t := t) HR.out HV.out hlt)
          clear hqn hq
          by_cases hrt : r = t
          · have hdb : ((r : Int) == t) = true := by rw [beq_iff_eq]; omega
            have hdb' : (r == t) = true := by rw [beq_iff_eq]; exact hrt
            have HE0 : Hid (0 = roundTo t a b c d m r) := by have := HE.out; rw [if_pos hrt] at this; exact this
            clear hrt HE
            go_wp2_with (at_builtin; refine wpList_append_int rfl (.tmp 47) (.tmp 49) rfl w.heap.size _ r _ rfl ((HT.out.alloc _).drewN N) 0 ⟨wo.heap.size, 0, none⟩ rfl (cell_new_at wo _ _ rfl) (by omega) (by have := HB.out.size; simp; omega) ?_)
            intro g cap w6 hV6 hb6 _ _
            have HV6 := Lib.hid (hV6.congr (f' := roundTo t a b c d m) fun j hj => by
              unfold upd
              by_cases e : j = r
              · rw [if_pos e, e]; exact HE0.out
              · rw [if_neg e])
            have HB6 := Lib.hid (Below.trans (below_drewN (HB.out.alloc HB.out.size _) N) hb6)
            clear hV6 hb6
            go_wp2_with fail
            go_roundw
            case rel => exact ⟨r + 1, by omega, by go_num, HV6.out, HB6.out⟩
            case measure => simp [intOf]; omega
          · have hdb : ((r : Int) == t) = false := beq_false_of_ne (by omega)
            have hdb' : (r == t) = false := beq_false_of_ne hrt
            have HE0 : Hid (z = roundTo t a b c d m r) := by have := HE.out; rw [if_neg hrt, HZ.out] at this; exact this
            clear hrt HE
            go_wp2_with (at_builtin; refine wpList_append_int rfl (.tmp 47) (.tmp 49) rfl w.heap.size _ r _ rfl ((HT.out.alloc _).drewN N) z ⟨wo.heap.size, 0, none⟩ rfl (cell_new_at wo _ _ rfl) (by omega) (by have := HB.out.size; simp; omega) ?_)
            intro g cap w6 hV6 hb6 _ _
            have HV6 := Lib.hid (hV6.congr (f' := roundTo t a b c d m) fun j hj => by
              unfold upd
              by_cases e : j = r
              · rw [if_pos e, e]; exact HE0.out
              · rw [if_neg e])
            have HB6 := Lib.hid (Below.trans (below_drewN (HB.out.alloc HB.out.size _) N) hb6)
            clear hV6 hb6
            go_wp2_with fail
            go_roundw
            case rel => exact ⟨r + 1, by omega, by go_num, HV6.out, HB6.out⟩
            case measure => simp [intOf]; omega
    · obtain rfl : n = r := by omega
      obtain ⟨g, cg, rfl, hg, hrow⟩ := HT.out.row h1
      have HG := Lib.hid hg
      have HROW := Lib.hid hrow
      clear hg hrow
      go_wp2_with fail
      go_ret
      exact ⟨g, cg, rfl, HG.out, HROW.out, HB.out⟩

set_option maxRecDepth 100000 in
set_option maxHeartbeats 2000000 in
theorem farOf_walk (n t : Nat) (x y : Int) (hx : x = (n : Int)) (hy : y = (t : Int)) (A : Option Addr) (m cp : Nat) (a b c : Nat → Int) (w : World) (hl : Lnk w A m a b c) (hm : m ≤ 9223372036854775807) (h1 : 1 ≤ n) (h8 : n ≤ 8) (hr : Right n m a b c) (ht : t < n) :
    Calls Tryd.prog 36 #[.int .i64 x, .slice A m cp, .int .i64 y] w fun e w' => ∃ g cg, e = .returned (.slice (some ⟨g, 0, none⟩) n cg) ∧ w.heap.size ≤ g ∧ RowP w' g 3 n (fun i => .int .i64 (endF t a b c m i)) ∧ Below w.heap.size w w' := by
  subst hx
  subst hy
  have h8' : (n : Int) ≤ 8 := by omega
  have HL := Lib.hid hl
  have HR := Lib.hid hr
  clear hl hr
  go_enter Tryd.func36, Tryd.ntmps36
  go_wp2_with fail
  have hcall := startOf_walk n t n t rfl rfl w ht (by omega)
  refine hcall.mono ?_
  clear hcall
  rintro e w1 ⟨g1, c1, rfl, hg1, hrow1, hb1⟩
  have HROW := Lib.hid hrow1
  have HG1 := Lib.hid hg1
  have HB1 := Lib.hid hb1
  clear hg1 hrow1 hb1
  go_wp2_with fail
  go_loopw [7, 8] (fun v i wr => ∃ r : Nat, r ≤ n ∧ i = .int .i64 r ∧ (∃ g cg, v = .slice (some ⟨g, 0, none⟩) n cg ∧ w.heap.size ≤ g ∧ RowP wr g 3 n (fun i => .int .i64 (rounds t a b c m (startF t) r i))) ∧ Below w.heap.size w wr) (fun _ i _ => n - (intOf i).toNat)
  case atStart => exact ⟨0, by omega, rfl, ⟨g1, c1, rfl, HG1.out, HROW.out⟩, HB1.out⟩
  case round =>
    obtain ⟨r, hrn, rfl, ⟨g, cg, rfl, hg, hrow⟩, hb⟩ := hrel
    clear HROW HG1 HB1
    have HROW := Lib.hid hrow
    have HG := Lib.hid hg
    have HB := Lib.hid hb
    clear hg hrow hb
    by_cases hlt : r < n
    · have hlt' : (r : Int) < n := by omega
      go_wp2_with fail
      have hcall := roundOf_walk n t n t rfl rfl A (some ⟨g, 0, none⟩) m cp cg a b c (rounds t a b c m (startF t) r) wr (HL.out.keep HB.out) HROW.out.vec hm h1 h8 HR.out (rounds_ranged HR.out (startF_ranged t n) r) ht
      refine hcall.mono ?_
      clear hcall
      rintro e w2 ⟨g2, c2, rfl, hg2, hrow2, hb2⟩
      have HROW2 := Lib.hid hrow2
      have HG2 := Lib.hid (Nat.le_trans HB.out.size hg2)
      have HB2 := Lib.hid (keep HB.out hb2)
      clear hg2 hrow2 hb2
      go_wp2_with fail
      go_roundw
      case rel => exact ⟨r + 1, by omega, by go_num, ⟨g2, c2, rfl, HG2.out, HROW2.out⟩, HB2.out⟩
      case measure => simp [intOf]; omega
    · obtain rfl : n = r := by omega
      have HE : Hid (RowP wr g 3 n (fun i => .int .i64 (endF t a b c m i))) := HROW.out.congr fun i hi => by rw [end_fewer HR.out ht (by omega) i hi]
      go_wp2_with fail
      go_ret
      exact ⟨g, cg, rfl, HG.out, HE.out, HB.out⟩

end Go.Proofs.YtminfghiejgieaaDoor

/- The walk of the reference's Shortest. -/
namespace Go.Proofs.YtminfghiejgieaaDoor
open Go.RowKit
set_option linter.unusedVariables false

set_option maxRecDepth 100000 in
set_option maxHeartbeats 4000000 in
theorem shortest_walk (n t : Nat) (A : Option Addr) (m cp : Nat) (a b c : Nat → Int) (hm : m ≤ 9223372036854775807) (h8 : n ≤ 8) (hr : Right n m a b c) (ht : t < n) :
    ∀ (f i : Nat) (d : Int) (w : World), f ≤ 100 → i < n → 0 ≤ d → d < f → d < 16 → d ≤ endF t a b c m i → Lnk w A m a b c →
    Calls Tryd.prog 37 #[.int .i64 n, .slice A m cp, .int .i64 i, .int .i64 t, .int .i64 d] w fun e w' => ∃ v, e = .returned v ∧ RL w' w.heap.size v (shL n t (costF m a b c) f i d) ∧ Below w.heap.size w w' := by
  intro f
  have HR := Lib.hid hr
  clear hr
  induction f with
  | zero => intro i d w _ _ h0 h1; omega
  | succ f ih =>
    intro i d w hf100 hi h0 h1 h16 hd hl
    have HIH := Lib.hid ih
    have HL := Lib.hid hl
    have HD := Lib.hid hd
    clear ih hl hd
    have h8' : (n : Int) ≤ 8 := by omega
    by_cases hstop : i = t ∧ d = 0
    · obtain ⟨rfl, rfl⟩ := hstop
      rw [shL_stop]
      go_enter Tryd.func37, Tryd.ntmps37
      go_wp2_with fail
      go_ret
      refine ⟨_, rfl, RL.single _ _ (Nat.le_refl _) _, ?_⟩
      exact Below.alloc (Below.alloc (Below.refl _ _) (Nat.le_refl _) _) (by simp) _
    · rw [shL_go hstop]
      have hgo : (((i : Int) == (t : Int)) = true ∧ (i == t) = true ∧ (d == 0) = false) ∨ (((i : Int) == (t : Int)) = false ∧ (i == t) = false) := by
        by_cases e : i = t
        · exact .inl ⟨by simp [e], by simp [e], beq_false_of_ne fun h => hstop ⟨e, h⟩⟩
        · exact .inr ⟨beq_false_of_ne (by omega), beq_false_of_ne e⟩
      clear hstop
      obtain ⟨X, hX⟩ : ∃ X : Nat → List (List Int), (fun k => shL n t (costF m a b c) f k (d - costF m a b c i k)) = X := ⟨_, rfl⟩
      have HX := Lib.hid hX
      have HMOST : Hid ((shS (tryB (costF m a b c) i d) i X n).length ≤ 134217728) := by
        have h := shL_most (f := f + 1) (d := d) (cost_m HR.out) (far_end HR.out ht) ht h8 hi (by omega) h16 HD.out
        by_cases e : i = t ∧ d = 0
        · obtain ⟨rfl, rfl⟩ := e
          rw [shS_nil]
          · exact Lib.hid (by simp)
          · intro k hk hp
            have hp' : k ≠ i ∧ costF m a b c i k ≠ 16 ∧ costF m a b c i k ≤ 0 := of_decide_eq_true hp
            have := (cost_m HR.out).low i k hi hk (fun e => hp'.1 e.symm)
            omega
        · rw [shL_go e, hX] at h
          exact Lib.hid h
      rw [hX]
      clear hX
      obtain ⟨P, hP⟩ : ∃ P : Nat → List (List Int), shS (tryB (costF m a b c) i d) i X = P := ⟨_, rfl⟩
      have HP0 : P 0 = [] := by rw [← hP]; rfl
      have HPS := Lib.hid (fun k (h : tryB (costF m a b c) i d k = true) => (by rw [← hP]; exact shS_yes h : P (k + 1) = P k ++ (X k).map (fun l => (i : Int) :: l)))
      have HPN := Lib.hid (fun k (h : tryB (costF m a b c) i d k = false) => (by rw [← hP]; exact shS_no h : P (k + 1) = P k))
      have HPM := Lib.hid (fun k (h : k ≤ n) => (by rw [← hP]; exact Nat.le_trans (shS_mono h) HMOST.out : (P k).length ≤ 134217728))
      rw [hP]
      clear hP HMOST
      rcases hgo with ⟨g1, g2, g3⟩ | ⟨g1, g2⟩
      all_goals
        go_enter Tryd.func37, Tryd.ntmps37
        go_wp2_with fail
        go_loopw [11, 12] (fun v q wr => ∃ k : Nat, k ≤ n ∧ q = .int .i64 k ∧ RL wr w.heap.size v (P k) ∧ Below w.heap.size w wr) (fun _ q _ => n - (intOf q).toNat)
        case atStart => exact ⟨0, by omega, rfl, by rw [HP0]; exact Rag.nil _ _ _ _, Below.refl _ _⟩
        case round =>
          obtain ⟨k, hk, rfl, hU, hb⟩ := hrel
          obtain ⟨wk, hwk⟩ : ∃ wk, wk = wr := ⟨_, rfl⟩
          subst hwk
          have HU := Lib.hid hU
          have HB := Lib.hid hb
          clear hU hb
          by_cases hlt : k < n
          · have hlt' : (k : Int) < n := by omega
            obtain ⟨cc, hcc⟩ : ∃ cc, costF m a b c i k = cc := ⟨_, rfl⟩
            have HCC : Hid (costV m a b c i k = cc) := hcc
            have hc0 := (cost_m HR.out).nonneg hi hlt
            have hc1 := (cost_m HR.out).high i k hi hlt
            rw [hcc] at hc0 hc1
            have htr : tryB (costF m a b c) i d k = decide (k ≠ i ∧ cc ≠ 16 ∧ cc ≤ d) := by unfold tryB; rw [hcc]
            by_cases hp : k ≠ i ∧ cc ≠ 16 ∧ cc ≤ d
            · have HPK := Lib.hid (HPS.out k (htr.trans (decide_eq_true hp)))
              obtain ⟨p1, p2, p3⟩ := hp
              have hlow := (cost_m HR.out).low i k hi hlt (fun e => p1 e.symm)
              rw [hcc] at hlow
              have htri := (far_end HR.out ht).tri i k hi hlt
              rw [hcc] at htri
              have hdd := HD.out
              have hcall := HIH.out k (d - cc) wk (by omega) hlt (by omega) (by omega) (by omega) (by omega) (HL.out.keep HB.out)
              have eX : shL n t (costF m a b c) f k (d - cc) = X k := by rw [← HX.out, ← hcc]
              rw [eX] at hcall
              have HROW : Hid (∀ l, l ∈ X k → 1 ≤ l.length ∧ l.length ≤ f + 1) := by
                rw [← eX]
                exact Lib.hid (fun l hl => shL_row f k _ l hl)
              have f1 : ((k : Int) == (i : Int)) = false := beq_false_of_ne (by omega)
              have f2 : (k == i) = false := beq_false_of_ne p1
              have f3 : (cc == 16) = false := beq_false_of_ne p2
              have f4 : decide (d < cc) = false := decide_eq_false (by omega)
              have hw : IntKind.i64.wrap (d - cc) = d - cc := IntWalk.i64_in _ (by omega)
              have HCALL := Lib.hid hcall
              clear hcall htr hcc eX htri hdd p1 p2
              go_wp2_with fail
              have hcall := costOf_walk A m cp a b c i k wk (HL.out.keep HB.out) hm cc HCC.out
              refine hcall.mono ?_
              clear hcall
              rintro e w5 ⟨rfl, h5⟩
              subst w5
              go_wp2_with fail
              refine HCALL.out.mono ?_
              clear HCALL
              rintro e w6 ⟨v6, rfl, hX6, hb6⟩
              obtain ⟨A6, c6, rfl, hm6⟩ := Rag.mat hX6
              have HX6 := Lib.hid hX6
              have hap6 : ∀ v, RL wk w.heap.size v (P k) → Apart v wk.heap.size w6.heap.size := fun v hv g hg => .inl (Rag.own hv hg).2
              have HU6 := Lib.hid (Rag.below HU.out hb6)
              have hap := hap6 _ HU.out
              have HAP := Lib.hid hap
              have HB6 := Lib.hid (keep HB.out hb6)
              have hsz := hb6.size
              have hszw := HB.out.size
              clear hX6 hb6 hap6 hap hm6 HU HB
              go_wp2_with fail
              go_loopw [11, 15] (fun v q wx => ∃ r : Nat, r ≤ (X k).length ∧ q = .int .i64 r ∧ RL wx w.heap.size v (P k ++ ((X k).take r).map (fun l => (i : Int) :: l)) ∧ Below w.heap.size w wx ∧ Hid (w6.heap.size ≤ wx.heap.size) ∧ Hid (Apart v wk.heap.size w6.heap.size) ∧ Hid (∀ b, wk.heap.size ≤ b → b < w6.heap.size → wx.heap[b]? = w6.heap[b]?)) (fun _ q _ => (X k).length - (intOf q).toNat)
              case atStart => exact ⟨0, by omega, rfl, by rw [List.take_zero, List.map_nil, List.append_nil]; exact HU6.out, HB6.out, Lib.hid (Nat.le_refl _), HAP, Lib.hid fun _ _ _ => rfl⟩
              case round =>
                obtain ⟨r, hr, rfl, hU, hb, hsx, hap, hsame⟩ := hrel
                have HU := Lib.hid hU
                have HBX := Lib.hid hb
                clear hU hb
                have hlX : (X k).length ≤ 134217728 := by
                  have := HPM.out (k + 1) (by omega)
                  rw [HPK.out, List.length_append, List.length_map] at this
                  omega
                by_cases hlr : r < (X k).length
                · have hlr' : (r : Int) < (X k).length := by omega
                  have hlen := HPM.out (k + 1) (by omega)
                  rw [HPK.out, List.length_append, List.length_map] at hlen
                  have HLEN : Hid ((P k ++ ((X k).take r).map (fun l => (i : Int) :: l)).length ≤ 1000000000000) := Lib.hid (by rw [List.length_append, List.length_map, List.length_take]; omega)
                  have hXx : Rag wr wk.heap.size (.slice A6 (X k).length c6) (X k).length (fun r => ((X k).getD r []).length) (fun r => atL ((X k).getD r [])) := Rag.same HX6.out hsame.out
                  obtain ⟨A6', c6', e6, hmx⟩ := hXx.mat
                  obtain ⟨rfl, rfl⟩ : A6 = A6' ∧ c6 = c6' := by
                    injection e6 with e1 e2 e3
                    exact ⟨e1, e3⟩
                  obtain ⟨ad, Ar, cr, rfl, hal, hac, hav⟩ := hmx r hlr
                  obtain ⟨l, hl⟩ : ∃ l, (X k).getD r [] = l := ⟨_, rfl⟩
                  have hlm : l ∈ X k := by
                    rw [← hl, List.getD_eq_getElem?_getD, List.getElem?_eq_getElem hlr]
                    exact List.getElem_mem _
                  have HTK : Hid (((X k).take (r + 1)).map (fun l => (i : Int) :: l) = ((X k).take r).map (fun l => (i : Int) :: l) ++ [(i : Int) :: l]) := by
                    rw [← hl, List.getD_eq_getElem?_getD, List.take_add_one, List.map_append, List.getElem?_eq_getElem hlr]
                    exact Lib.hid rfl
                  obtain ⟨hl1, hl2⟩ := HROW.out l hlm
                  simp only [hl] at hac hav
                  obtain ⟨ad2, rfl, hal2, -⟩ := hav 0 (by omega)
                  have HAV := Lib.hid hav
                  have HACR := Lib.hid ((World.cell?_alloc_lt wr (.cells #[.int .i64 i] 3) _ (by rw [block_of_add]; exact hal)).trans hac)
                  have hacr := HACR.out
                  clear hav hmx hXx e6 hlm hl
                  have hszx : w.heap.size ≤ wr.heap.size := HBX.out.size
                  go_wp2_with (at_builtin; first
                    | (refine wpList_append_ints rfl (.tmp 63) (.tmp 67) rfl wr.heap.size _ 1 (fun _ => (i : Int)) rfl (OwnV.single _ _ (Nat.le_refl _) _ _ rfl) ad2 l.length cr (atL l) rfl (HAV.out.keep ((Below.refl _ _).alloc (Nat.le_refl _) _)) (by omega) (by omega) (by simp) ?_)
                    | fail)
                  intro v7 w7 hT7 hb7
                  have HB7 : Hid (Below wr.heap.size wr w7) := Lib.hid (Below.trans ((Below.refl _ _).alloc (Nat.le_refl _) _) hb7)
                  have HT7 : Hid (OwnV w7 w.heap.size v7 ((i : Int) :: l).length (atL ((i : Int) :: l))) := by
                    have h1 := (hT7.lift hszx).congr (f' := atL ((i : Int) :: l)) (fun j hj => by
                      cases j with
                      | zero => rfl
                      | succ j => rfl)
                    rw [Nat.add_comm] at h1
                    exact Lib.hid h1
                  have HU7 := Lib.hid (Rag.below HU.out HB7.out)
                  have hs7 := HB7.out.size
                  have hsx' := hsx.out
                  clear hT7 hb7 HU HACR HAV hacr hal hal2 hac hl1 hl2
                  obtain ⟨A7, c7, rfl, -⟩ := HT7.out.vec
                  go_wp2_with (at_builtin; first
                    | (refine wpList_append_rl rfl (.tmp 61) (.tmp 69) rfl w.heap.size _ (P k ++ ((X k).take r).map (fun l => (i : Int) :: l)) rfl (Rag.alloc HU7.out _) _ ((i : Int) :: l) (HT7.out.alloc _) _ rfl (cell_new_at _ _ _ rfl) HLEN.out (by simp; omega) wk.heap.size w6.heap.size (by simp; omega) hap.out ?_)
                    | fail)
                  intro v8 w8 hT8 hb8 hap8 hs8
                  have HT8 : Hid (RL w8 w.heap.size v8 (P k ++ ((X k).take (r + 1)).map (fun l => (i : Int) :: l))) := by
                    rw [HTK.out]
                    have h8 := hT8
                    simp only [List.map_take] at h8 ⊢
                    exact Lib.hid h8
                  have HB8 : Hid (Below w.heap.size w w8) := Lib.hid (((keep HBX.out HB7.out).alloc (keep HBX.out HB7.out).size _).trans hb8)
                  have hsz8 := hb8.size
                  rw [World.size_alloc] at hsz8
                  have HSZ8 : Hid (w6.heap.size ≤ w8.heap.size) := Lib.hid (by omega)
                  have HAP8 := Lib.hid hap8
                  have HS8 : Hid (∀ b, wk.heap.size ≤ b → b < w6.heap.size → w8.heap[b]? = w6.heap[b]?) := Lib.hid fun b h1 h2 => by
                    rw [hs8 b h1 h2, Below.heap_alloc _ _ _ (by omega), HB7.out.block b (by omega), hsame.out b h1 h2]
                  clear hT8 hb8 hap8 hs8 HT7 HU7 HB7 HBX hap hsame hsx
                  go_wp2_with fail
                  go_roundw
                  case rel => exact ⟨r + 1, by omega, by go_num, HT8.out, HB8.out, HSZ8, HAP8, HS8⟩
                  case measure => simp [intOf]; omega
                · have er : r = (X k).length := by omega
                  subst er
                  have hU' := HU.out
                  rw [List.take_length, ← HPK.out] at hU'
                  have HU' := Lib.hid hU'
                  clear hU'
                  clear HU hap hsame hsx HU6 HX6 HAP
                  go_wp2_with fail
                  go_roundw
                  case rel => exact ⟨k + 1, by omega, by go_num, HU'.out, HBX.out⟩
                  case measure => simp [intOf]; omega
            · have HPK := Lib.hid (HPN.out k (htr.trans (decide_eq_false hp)))
              have hco : Hid (w.drewN 0 = w) := Lib.hid rfl
              have hcs : (((k : Int) == (i : Int)) = true ∧ (k == i) = true) ∨ (((k : Int) == (i : Int)) = false ∧ (k == i) = false ∧ (cc == 16) = true) ∨ (((k : Int) == (i : Int)) = false ∧ (k == i) = false ∧ (cc == 16) = false ∧ decide (d < cc) = true) := by
                by_cases e1 : k = i
                · exact .inl ⟨by simp [e1], by simp [e1]⟩
                · by_cases e2 : cc = 16
                  · exact .inr (.inl ⟨beq_false_of_ne (by omega), beq_false_of_ne e1, by simp [e2]⟩)
                  · exact .inr (.inr ⟨beq_false_of_ne (by omega), beq_false_of_ne e1, beq_false_of_ne e2, decide_eq_true (by
                      rcases Int.lt_or_le d cc with h | h
                      · exact h
                      · exact absurd ⟨e1, e2, h⟩ hp)⟩)
              clear htr hcc hp hco
              rcases hcs with ⟨f1, f2⟩ | ⟨f1, f2, f3⟩ | ⟨f1, f2, f3, f4⟩
              all_goals
                go_wp2_with fail
                have hcall := costOf_walk A m cp a b c i k wk (HL.out.keep HB.out) hm cc HCC.out
                refine hcall.mono ?_
                clear hcall
                rintro e w5 ⟨rfl, h5⟩
                subst w5
                go_wp2_with fail
                go_roundw
                case rel => exact ⟨k + 1, by omega, by go_num, by rw [HPK.out]; exact HU.out, HB.out⟩
                case measure => simp [intOf]; omega
          · have ek : k = n := by omega
            subst ek
            obtain ⟨Au, cu, rfl, -⟩ := Rag.mat HU.out
            go_wp2_with fail
            go_ret
            exact ⟨_, rfl, HU.out, HB.out⟩

end Go.Proofs.YtminfghiejgieaaDoor

/- The fact of ways: gone. -/
namespace Go.Proofs.YtminfghiejgieaaDoor
open Go.RowKit
set_option linter.unusedVariables false

set_option maxRecDepth 100000 in
set_option maxHeartbeats 1000000 in
theorem gone_walk (w : World) :
    Calls Tryd.prog 34 #[] w fun e w' => e = .returned (.bool true) ∧ Below w.heap.size w w' := by
  have hr : Right 2 1 (fun _ => 0) (fun _ => 1) (fun _ => 3) := right_lit
  have hD := far_end (t := 1) hr (by omega)
  have hK := cost_m hr
  have h01 : endF 1 (fun _ => 0) (fun _ => 1) (fun _ => 3) 1 0 < 16 := by
    have h1 := hD.tri 0 1 (by omega) (by omega)
    rw [hD.zero] at h1
    have h2 : costF 1 (fun _ => 0) (fun _ => 1) (fun _ => 3) 0 1 = 3 := by decide
    omega
  obtain ⟨-, -, hn2, hne2, -⟩ := stp_at hK hD (i := 0) (by omega) (by omega) h01
  have HF : Hid (fstF 2 1 (costF 1 (fun _ => 0) (fun _ => 1) (fun _ => 3)) (endF 1 (fun _ => 0) (fun _ => 1) (fun _ => 3) 1) 0 1 = 1) := by
    show stpF 2 1 (costF 1 (fun _ => 0) (fun _ => 1) (fun _ => 3)) (endF 1 (fun _ => 0) (fun _ => 1) (fun _ => 3) 1) 0 = 1
    omega
  clear hD hK hn2 hne2 hr
  go_enter Tryd.func34, Tryd.ntmps34
  go_wp2_with fail
  have hcall := first_ok 2 0 1 2 0 1 rfl rfl rfl (some ⟨w.heap.size, 0, none⟩) 1 1 (fun _ => 0) (fun _ => 1) (fun _ => 3) _ (lnk_lit w) (by omega) good_lit (by omega) (by omega) h01
  refine hcall.mono ?_
  clear hcall
  rintro e w1 ⟨k, v, ⟨hk, hk2⟩, -, rfl, hown, hb⟩
  have ek : k = 1 := by
    rcases Nat.lt_trichotomy k 1 with h | h | h
    · have e0 : k = 0 := by omega
      subst e0
      exact absurd hk (by show (0 : Nat) ≠ 1; omega)
    · exact h
    · exact absurd HF.out (hk2 1 h)
  subst ek
  obtain ⟨Av, cv, rfl, hv⟩ := hown.vec
  have HV := Lib.hid hv
  have HB : Hid (Below w.heap.size w w1) := keepAlloc (Below.refl _ _) hb
  clear hown hb hv hk hk2 h01
  go_wp2_with fail
  have hcall := ints_walk Av (some ⟨w1.heap.size, 0, none⟩) 2 2 cv 2 _ (fun i => if i = 0 then 0 else 1) _ (HV.out.keep ((Below.refl _ _).alloc (Nat.le_refl _) (.cells #[.int .i64 0, .int .i64 1] 3)))
    (fun j hj => ⟨_, rfl, (Blk.new w1 3 #[.int .i64 0, .int .i64 1]).lt, by
      rw [Addr.add_lit, (Blk.new w1 3 #[.int .i64 0, .int .i64 1]).cell]
      have h : j = 0 ∨ j = 1 := by omega
      rcases h with rfl | rfl <;> rfl⟩) (by omega) (by omega) true ⟨fun _ => ⟨rfl, fun i hi => by
        have h : i = 0 ∨ i = 1 := by omega
        rcases h with rfl | rfl
        · rfl
        · show ((fstF 2 1 _ _ 0 1 : Nat) : Int) = 1
          rw [HF.out]; rfl⟩, fun _ => rfl⟩
  refine hcall.mono ?_
  clear hcall
  rintro e w2 ⟨rfl, k2, rfl⟩
  go_wp2_with fail
  go_ret
  exact ⟨rfl, below_drewN (HB.out.alloc HB.out.size _) _⟩

/-- Both are nodes, or it is refused. -/
theorem badW_aux (x z y : Int) (m : Nat) (a b c : Nat → Int) : (GoodG x m a b c ∧ (0 ≤ y ∧ y < x) ∧ (0 ≤ z ∧ z < x)) ∨ ∃ v, (v = 1 ∨ v = 3 ∨ v = 5) ∧ BadW x m a b c z y v := by
  rcases graph_cases x m a b c with hg | ⟨v, hv, hf⟩
  · by_cases h1 : (0 ≤ y ∧ y < x) ∧ (0 ≤ z ∧ z < x)
    · exact .inl ⟨hg, h1⟩
    · exact .inr ⟨1, .inl rfl, .inr ⟨hg, by omega, rfl⟩⟩
  · exact .inr ⟨v, hv, .inl hf⟩

end Go.Proofs.YtminfghiejgieaaDoor

/- Ways compared: plain laws. -/
namespace Go.Proofs.YtminfghiejgieaaDoor
open Go.RowKit
set_option linter.unusedVariables false

/-- What Compared tells. -/
def CmpT (n m : Nat) (f g : Nat → Int) (r : Int) : Prop :=
  (∃ i, i < n ∧ i < m ∧ (∀ j, j < i → f j = g j) ∧ f i < g i ∧ r = -1) ∨ (∃ i, i < n ∧ i < m ∧ (∀ j, j < i → f j = g j) ∧ g i < f i ∧ r = 1) ∨ ((∀ j, j < n → j < m → f j = g j) ∧ r = (n : Int) - m)

section
variable {n m t : Nat} {a b c : Nat → Int}
theorem wayLen_lenN {f : Nat → Int} {g : Nat → Nat} : ∀ r, (∀ i, i < r + 1 → f i = (g i : Int)) → wayLen m a b c f (r + 1) = lenN (costF m a b c) g r
  | 0, _ => rfl
  | r + 1, h => by
    have ih := wayLen_lenN r fun i hi => h i (by omega)
    show wayLen m a b c f (r + 1) + (if r + 1 = 0 then 0 else costV m a b c (f (r + 1 - 1)) (f (r + 1))) = lenN (costF m a b c) g r + costF m a b c (g r) (g (r + 1))
    rw [ih, if_neg (by omega), Nat.add_sub_cancel, h r (by omega), h (r + 1) (by omega)]
    rfl
/-- The first way is a way, as long as the other node is far. -/
theorem fst_way (hr : Right n m a b c) (ht : t < n) {s : Nat} (hs : s < n) (h16 : endF t a b c m s < 16) {k : Nat}
    (hk : ∀ j, j < k → fstF n t (costF m a b c) (endF t a b c m) s j ≠ t) (hkt : fstF n t (costF m a b c) (endF t a b c m) s k = t) :
    WayOk n m a b c (k + 1) (fun j => fstF n t (costF m a b c) (endF t a b c m) s j) ∧ wayLen m a b c (fun j => fstF n t (costF m a b c) (endF t a b c m) s j) (k + 1) = endF t a b c m s := by
  have hK := cost_m hr
  have hD := far_end hr ht
  have hf := fst_len hK hD hs h16 hk
  refine ⟨⟨by omega, fun i hi => ?_, fun i hi => ?_⟩, ?_⟩
  · have := (hf i (by omega)).1
    exact ⟨by show (0 : Int) ≤ ((fstF n t (costF m a b c) (endF t a b c m) s i : Nat) : Int); omega, by show ((fstF n t (costF m a b c) (endF t a b c m) s i : Nat) : Int) < n; omega⟩
  · obtain ⟨h1, h2, h3⟩ := hf i (by omega)
    obtain ⟨h4, h5, h6, h7, h8⟩ := stp_at hK hD h1 (hk i (by omega)) (by omega)
    have hl := hK.low _ _ h6 h1 h7
    have hd := hD.low _ h6
    have hb := hK.back _ _ h1 h6
    show costF m a b c (fstF n t (costF m a b c) (endF t a b c m) s i) (stpF n t (costF m a b c) (endF t a b c m) (fstF n t (costF m a b c) (endF t a b c m) s i)) ≠ 0 ∧ costF m a b c (fstF n t (costF m a b c) (endF t a b c m) s i) (stpF n t (costF m a b c) (endF t a b c m) (fstF n t (costF m a b c) (endF t a b c m) s i)) ≠ 16
    omega
  · rw [wayLen_lenN (g := fstF n t (costF m a b c) (endF t a b c m) s) k fun i _ => rfl]
    have h := (hf k (Nat.le_refl _)).2.1
    rw [hkt, hD.zero] at h
    omega
/-- No way is shorter; of as short ones none stands ahead. -/
theorem way_end (hr : Right n m a b c) (ht : t < n) {s : Nat} (hs : s < n) (h16 : endF t a b c m s < 16) {k : Nat}
    (hk : ∀ j, j < k → fstF n t (costF m a b c) (endF t a b c m) s j ≠ t) (hkt : fstF n t (costF m a b c) (endF t a b c m) s k = t)
    {r : Nat} {f : Nat → Int} (hw : WayOk n m a b c (r + 1) f) (h0 : f 0 = s) (he : f r = t) :
    endF t a b c m s ≤ wayLen m a b c f (r + 1) ∧ (wayLen m a b c f (r + 1) = endF t a b c m s → ∀ q, CmpT (k + 1) (r + 1) (fun j => fstF n t (costF m a b c) (endF t a b c m) s j) f q → q ≤ 0) := by
  have hK := cost_m hr
  have hD := far_end hr ht
  obtain ⟨g, hg⟩ : ∃ g : Nat → Nat, ∀ i, i < r + 1 → f i = (g i : Int) := ⟨fun i => (f i).toNat, fun i hi => by have := hw.2.1 i hi; show f i = ((f i).toNat : Int); omega⟩
  have hn : ∀ i, i ≤ r → g i < n := fun i hi => by
    have := hw.2.1 i (by omega)
    rw [hg i (by omega)] at this
    omega
  have g0 : g 0 = s := by have := hg 0 (by omega); rw [h0] at this; omega
  have gr : g r = t := by have := hg r (by omega); rw [he] at this; omega
  have hc : ∀ i, i < r → costF m a b c (g i) (g (i + 1)) ≠ 0 := fun i hi => by
    have := (hw.2.2 i (by omega)).1
    rw [hg i (by omega), hg (i + 1) (by omega)] at this
    exact this
  have hpos : ∀ j, j ≤ r → 0 ≤ lenN (costF m a b c) g j := by
    intro j
    induction j with
    | zero => intro _; exact Int.le_refl _
    | succ j ih =>
      intro hj
      have h1 := ih (by omega)
      have h2 := hK.nonneg (hn j (by omega)) (hn (j + 1) hj)
      show 0 ≤ lenN (costF m a b c) g j + costF m a b c (g j) (g (j + 1))
      omega
  have el := wayLen_lenN (m := m) (a := a) (b := b) (c := c) r hg
  have hle := len_least hD hn gr
  rw [g0, ← el] at hle
  refine ⟨hle, fun e q hq => ?_⟩
  rw [el] at e
  obtain ⟨h1, h2⟩ := fst_least hK hD hs h16 hk hkt hn hc g0 gr e hpos
  rcases hq with ⟨i, -, -, -, -, rfl⟩ | ⟨i, hi, hir, hj, hlt, -⟩ | ⟨hj, rfl⟩
  · omega
  · have h3 := h1 i (by omega) (by omega) fun j hji => by
      have h4 := hj j hji
      rw [hg j (by omega)] at h4
      have h5 : ((fstF n t (costF m a b c) (endF t a b c m) s j : Nat) : Int) = (g j : Int) := h4
      omega
    rw [hg i (by omega)] at hlt
    have h5 : (g i : Int) < ((fstF n t (costF m a b c) (endF t a b c m) s i : Nat) : Int) := hlt
    omega
  · have h3 := h2 fun j hjk hjr => by
      have h4 := hj j (by omega) (by omega)
      rw [hg j (by omega)] at h4
      have h5 : ((fstF n t (costF m a b c) (endF t a b c m) s j : Nat) : Int) = (g j : Int) := h4
      omega
    omega
end

end Go.Proofs.YtminfghiejgieaaDoor

/- ways.Length, Compared: the walks. -/
namespace Go.Proofs.YtminfghiejgieaaDoor
open Go.RowKit
set_option linter.unusedVariables false

set_option maxRecDepth 100000 in
set_option maxHeartbeats 1000000 in
theorem wayLength_bad (x : Int) (A : Option Addr) (m cp : Nat) (a b c : Nat → Int) (F : Option Addr) (k ck : Nat) (w : World) (hl : Lnk w A m a b c) (hm : m ≤ 9223372036854775807) (v : Int) (h : FaultG x m a b c v) :
    Calls Tryd.prog 38 #[.int .i64 x, .slice A m cp, .slice F k ck] w fun e w' => e = .returned (.tuple #[.int .i64 0, errNo v]) ∧ Below w.heap.size w w' := by
  have HL := Lib.hid hl
  have HF := Lib.hid h
  clear hl h
  go_enter Tryd.func38, Tryd.ntmps38
  go_wp2_with fail
  refine (costs_bad x A m cp a b c w HL.out hm v HF.out).mono ?_
  rintro e w1 ⟨rfl, hb1⟩
  go_wp2_with fail
  go_ret2
  exact ⟨rfl, hb1⟩

set_option maxRecDepth 100000 in
set_option maxHeartbeats 4000000 in
theorem wayLength_ok (n : Nat) (x : Int) (hx : x = (n : Int)) (A : Option Addr) (m cp : Nat) (a b c : Nat → Int) (F : Option Addr) (k ck : Nat) (f : Nat → Int) (w : World) (hl : Lnk w A m a b c) (hm : m ≤ 9223372036854775807) (hg : GoodG x m a b c) (hf : Vec w F k f) (hk : k ≤ 140737488351232) :
    Calls Tryd.prog 38 #[.int .i64 x, .slice A m cp, .slice F k ck] w fun e w' =>
      ((WayOk x m a b c k f ∧ e = .returned (.tuple #[.int .i64 (wayLen m a b c f k), .nilIface])) ∨ (¬ WayOk x m a b c k f ∧ e = .returned (.tuple #[.int .i64 0, errNo 3]))) ∧ Below w.heap.size w w' := by
  subst hx
  have h1 : 1 ≤ n := by have := hg.1; omega
  have h8 : n ≤ 8 := by have := hg.2.1; omega
  have hR : Right n m a b c := by simpa using hg.2.2
  have h8' : (n : Int) ≤ 8 := by omega
  have hk2 : (k : Int) ≤ 140737488351232 := by omega
  have HL := Lib.hid hl
  have HG := Lib.hid hg
  have HR := Lib.hid hR
  have HF0 := Lib.hid hf
  clear hl hg hR hf
  go_enter Tryd.func38, Tryd.ntmps38
  go_wp2_with fail
  have hcall := costs_ok n n rfl A m cp a b c w HL.out hm HG.out
  refine hcall.mono ?_
  clear hcall
  rintro e w2 ⟨g, cg, B, C, rfl, -, hat, hb2⟩
  obtain ⟨g', cg', e, -, hgl, hgc, -⟩ := hat.cells h1
  have eg : g = g' := by
    simp only [Value.slice.injEq, Option.some.injEq, Addr.mk.injEq] at e
    exact e.1.1
  subst eg
  have HGC := Lib.hid hgc
  have HGL := Lib.hid hgl
  have HAT := Lib.hid hat
  have HF := Lib.hid (HF0.out.keep hb2)
  have HB2 := Lib.hid hb2
  clear hat hgc hgl e hb2
  by_cases h0 : k = 0
  · subst h0
    go_wp2_with fail
    go_ret2
    exact ⟨.inr ⟨fun h => absurd h.1 (by omega), rfl⟩, HB2.out⟩
  · have hk1 : (1 : Int) ≤ k := by omega
    have hk0 : ((k : Int) == 0) = false := beq_false_of_ne (by omega)
    have hk00 : (k == 0) = false := beq_false_of_ne h0
    go_wp2_with fail
    go_loopw [10, 29] (fun v i wr => ∃ (r : Nat), r ≤ k ∧ i = .int .i64 r ∧ v = .int .i64 (wayLen m a b c f r) ∧ Hid (∀ j, j < r → 0 ≤ f j ∧ f j < n) ∧ Hid (∀ j, j + 1 < r → costV m a b c (f j) (f (j + 1)) ≠ 0 ∧ costV m a b c (f j) (f (j + 1)) ≠ 16) ∧ ∃ q, wr = w2.drewN q) (fun _ i _ => k - (intOf i).toNat)
    case atStart => exact ⟨0, by omega, rfl, rfl, Lib.hid fun j hj => absurd hj (by omega), Lib.hid fun j hj => absurd hj (by omega), 0, rfl⟩
    case round =>
      obtain ⟨r, hr, rfl, rfl, HIN, HCO, q, rfl⟩ := hrel
      have hwl := wayLen_ranged HG.out HIN.out r (Nat.le_refl _)
      by_cases hlt : r < k
      · have hlt' : (r : Int) < k := by omega
        obtain ⟨fd, rfl, hfl, hfc⟩ := HF.out r hlt
        obtain ⟨s, hs⟩ : ∃ s, wayLen m a b c f r = s := ⟨_, rfl⟩
        have HS := Lib.hid hs
        rw [hs] at hwl ⊢
        clear hs
        rcases (show f r < 0 ∨ (0 ≤ f r ∧ (n : Int) ≤ f r) ∨ (0 ≤ f r ∧ f r < n) by omega) with hbad | hbad | hin
        · have HNO : Hid (¬ WayOk n m a b c k f) := fun h => by have := h.2.1 r hlt; omega
          go_wp2_with fail
          go_ret2
          exact ⟨.inr ⟨HNO.out, rfl⟩, below_drewN HB2.out _⟩
        · have HNO : Hid (¬ WayOk n m a b c k f) := fun h => by have := h.2.1 r hlt; omega
          obtain ⟨hb0, hb1⟩ := hbad
          go_wp2_with fail
          go_ret2
          exact ⟨.inr ⟨HNO.out, rfl⟩, below_drewN HB2.out _⟩
        · obtain ⟨hi0, hi1⟩ := hin
          have HIN1 : Hid (∀ j, j < r + 1 → 0 ≤ f j ∧ f j < n) := fun j hj => by
            rcases Nat.lt_or_ge j r with h | h
            · exact HIN.out j h
            · obtain rfl : j = r := by omega
              exact ⟨hi0, hi1⟩
          obtain ⟨v, hv⟩ : ∃ v : Nat, f r = v := ⟨(f r).toNat, by omega⟩
          have HV := Lib.hid hv
          have hvn : v < n := by omega
          rw [hv] at hfc
          clear hv hi0 hi1
          have hvn' : (v : Int) < n := by omega
          by_cases hr0 : r = 0
          · have HR0 := Lib.hid hr0
            have hd0 : ((r : Int) == 0) = true := by simp [hr0]
            have hd00 : (r == 0) = true := by simp [hr0]
            have HS1 : Hid (wayLen m a b c f (r + 1) = s) := by
              show _ + _ = _
              rw [if_pos HR0.out, HS.out]
              omega
            clear hfl hr0
            go_wp2_with fail
            go_roundw
            case rel => exact ⟨r + 1, by omega, by go_num, by rw [HS1.out], HIN1, Lib.hid (fun j hj => absurd hj (by have := HR0.out; omega)), q, rfl⟩
            case measure => simp [intOf]; omega
          · obtain ⟨p, hrp⟩ : ∃ p, r = p + 1 := ⟨r - 1, by omega⟩
            obtain ⟨fd', e, -, hpc⟩ := HF.out p (by omega)
            injection e with e
            subst e
            have hpin := HIN.out p (by omega)
            obtain ⟨u, hu⟩ : ∃ u : Nat, f p = u := ⟨(f p).toNat, by omega⟩
            have hun : u < n := by omega
            rw [hu] at hpc
            have hun' : (u : Int) < n := by omega
            obtain ⟨cv, hcv⟩ : ∃ cv, costF m a b c u v = cv := ⟨_, rfl⟩
            have HCV : Hid (costV m a b c (f p) (f r) = cv) := by rw [hu, HV.out]; exact hcv
            have hcr := costV_ranged HR.out u v
            have hcr1 : 0 ≤ cv ∧ cv ≤ 16 := by rw [← hcv]; exact hcr
            have cg0 := HGC.out u hun
            have cr := ((HAT.out.row u hun).2).cell hvn
            rw [hcv] at cr
            have hd0 : ((r : Int) == 0) = false := beq_false_of_ne (by omega)
            have hd00 : (r == 0) = false := beq_false_of_ne hr0
            have hr1 : (0 : Int) < r := by omega
            have hp0 : (0 : Int) ≤ (r : Int) - 1 := by omega
            have hp2 : (r : Int) - 1 < k := by omega
            have hp1 : ((r : Int) - 1).toNat = p := by omega
            have HRP := Lib.hid hrp
            clear hcv hfl hr0 hrp hu hpin hcr
            have HCO1 : cv ≠ 0 ∧ cv ≠ 16 → Hid (∀ j, j + 1 < r + 1 → costV m a b c (f j) (f (j + 1)) ≠ 0 ∧ costV m a b c (f j) (f (j + 1)) ≠ 16) := fun h j hj => by
              rcases Nat.lt_or_ge (j + 1) r with h' | h'
              · exact HCO.out j h'
              · have e1 : j = p := by have := HRP.out; omega
                have e2 : j + 1 = r := by have := HRP.out; omega
                rw [e2, e1, HCV.out]
                exact h
            have HNO : ¬ (cv ≠ 0 ∧ cv ≠ 16) → Hid (¬ WayOk n m a b c k f) := fun h hw => by
              have h1 := hw.2.2 p (by have := HRP.out; omega)
              have e2 : p + 1 = r := HRP.out.symm
              rw [e2, HCV.out] at h1
              exact h h1
            have HS1 : Hid (wayLen m a b c f (r + 1) = s + cv) := by
              show _ + _ = _
              rw [if_neg (by have := HRP.out; omega), HS.out, ← HCV.out]
              have e : r - 1 = p := by have := HRP.out; omega
              rw [e]
            by_cases hc0 : cv = 0
            · have HN := HNO (fun h => h.1 hc0)
              subst hc0
              clear HCO1 HNO
              go_wp2_with fail
              go_ret2
              exact ⟨.inr ⟨HN.out, rfl⟩, below_drewN HB2.out _⟩
            · by_cases hc1 : cv = 16
              · have HN := HNO (fun h => h.2 hc1)
                subst hc1
                clear HCO1 HNO
                go_wp2_with fail
                go_ret2
                exact ⟨.inr ⟨HN.out, rfl⟩, below_drewN HB2.out _⟩
              · have HC1 := HCO1 ⟨hc0, hc1⟩
                have hd1 : (cv == 0) = false := beq_false_of_ne hc0
                have hd2 : (cv == 16) = false := beq_false_of_ne hc1
                clear hc0 hc1 HCO1 HNO
                go_wp2_with fail
                go_roundw
                case rel => exact ⟨r + 1, by omega, by go_num, by rw [HS1.out], HIN1, HC1, _, rfl⟩
                case measure => simp [intOf]; omega
      · have er : r = k := by omega
        subst er
        have HOK : Hid (WayOk n m a b c r f) := ⟨by omega, HIN.out, HCO.out⟩
        go_wp2_with fail
        go_ret2
        exact ⟨.inl ⟨HOK.out, rfl⟩, below_drewN HB2.out _⟩

end Go.Proofs.YtminfghiejgieaaDoor

/- The walk of waywardenref1.LengthOf: what a way comes to. -/

namespace Go.Proofs.YtminfghiejgieaaDoor
open Go.RowKit
set_option linter.unusedVariables false

/-- What is told of a way. -/
def WayTold (x : Int) (m : Nat) (a b c : Nat → Int) (k : Nat) (f : Nat → Int) (s : Int) (ok : Bool) : Prop :=
  (ok = true ↔ WayOk x m a b c k f) ∧ (ok = false → s = 0) ∧ (ok = true → GoodG x m a b c → s = wayLen m a b c f k)

theorem way_no {x : Int} {m : Nat} {a b c : Nat → Int} {k : Nat} {f : Nat → Int} (h : ¬ WayOk x m a b c k f) : WayTold x m a b c k f 0 false := ⟨⟨(fun h => by cases h), fun h' => absurd h' h⟩, fun _ => rfl, fun h => by cases h⟩

set_option maxRecDepth 100000 in
set_option maxHeartbeats 2000000 in
theorem lengthOf_walk (x : Int) (A : Option Addr) (m cp : Nat) (a b c : Nat → Int) (F : Option Addr) (k ck : Nat) (f : Nat → Int) (w : World) (hl : Lnk w A m a b c) (hm : m ≤ 9223372036854775807) (hf : Vec w F k f) (hk : k ≤ 140737488351232) :
    Calls Tryd.prog 35 #[.int .i64 x, .slice A m cp, .slice F k ck] w fun e w' => ∃ s ok, e = .returned (.tuple #[.int .i64 s, .bool ok]) ∧ WayTold x m a b c k f s ok ∧ ∃ q, w' = w.drewN q := by
  have HL := Lib.hid hl
  have HF := Lib.hid hf
  clear hl hf
  by_cases h0 : k = 0
  · subst h0
    go_enter Tryd.func35, Tryd.ntmps35
    go_wp2_with fail
    go_ret2
    exact ⟨0, false, rfl, way_no (fun h => absurd h.1 (by omega)), 0, rfl⟩
  · have hk1 : (1 : Int) ≤ k := by omega
    have hk0 : ((k : Int) == 0) = false := beq_false_of_ne (by omega)
    have hk2 : (k : Int) ≤ 140737488351232 := by omega
    go_enter Tryd.func35, Tryd.ntmps35
    go_wp2_with fail
    go_loopw [8, 9] (fun v i wr => ∃ (r : Nat) (s : Int), r ≤ k ∧ i = .int .i64 r ∧ v = .int .i64 s ∧ Hid (∀ j, j < r → 0 ≤ f j ∧ f j < x) ∧ Hid (∀ j, j + 1 < r → costV m a b c (f j) (f (j + 1)) ≠ 0 ∧ costV m a b c (f j) (f (j + 1)) ≠ 16) ∧ Hid (GoodG x m a b c → s = wayLen m a b c f r) ∧ ∃ q, wr = w.drewN q) (fun _ i _ => k - (intOf i).toNat)
    case atStart => exact ⟨0, 0, by omega, rfl, rfl, Lib.hid fun j hj => absurd hj (by omega), Lib.hid fun j hj => absurd hj (by omega), Lib.hid fun _ => rfl, 0, rfl⟩
    case round =>
      obtain ⟨r, s, hr, rfl, rfl, hin, hco, hsm, q, rfl⟩ := hrel
      have HIN := hin
      have HCO := hco
      have HSM := hsm
      clear hin hco hsm
      by_cases hlt : r < k
      · have hlt' : (r : Int) < k := by omega
        obtain ⟨fd, rfl, hfl, hfc⟩ := HF.out r hlt
        rcases (show f r < 0 ∨ (0 ≤ f r ∧ x ≤ f r) ∨ (0 ≤ f r ∧ f r < x) by omega) with hbad | hbad | hin
        · have HNO : Hid (¬ WayOk x m a b c k f) := fun h => by have := h.2.1 r hlt; omega
          go_wp2_with fail
          go_ret2
          exact ⟨0, false, rfl, way_no HNO.out, q, rfl⟩
        · have HNO : Hid (¬ WayOk x m a b c k f) := fun h => by have := h.2.1 r hlt; omega
          obtain ⟨hb0, hb1⟩ := hbad
          go_wp2_with fail
          go_ret2
          exact ⟨0, false, rfl, way_no HNO.out, q, rfl⟩
        · obtain ⟨hi0, hi1⟩ := hin
          have HIN1 : Hid (∀ j, j < r + 1 → 0 ≤ f j ∧ f j < x) := fun j hj => by
            rcases Nat.lt_or_ge j r with h | h
            · exact HIN.out j h
            · obtain rfl : j = r := by omega
              exact ⟨hi0, hi1⟩
          by_cases hr0 : r = 0
          · have hd0 : decide (0 < r) = false := decide_eq_false (by omega)
            have HR0 := Lib.hid hr0
            have HS1 : Hid (GoodG x m a b c → s = wayLen m a b c f (r + 1)) := fun hg => by
              rw [HSM.out hg]
              show _ = _ + _
              rw [if_pos HR0.out]
              omega
            clear hfl hr0
            go_wp2_with fail
            go_roundw
            case rel => exact ⟨r + 1, s, by omega, by go_num, rfl, HIN1, Lib.hid (fun j hj => absurd hj (by have := HR0.out; omega)), HS1, q, rfl⟩
            case measure => simp [intOf]; omega
          · obtain ⟨p, hrp⟩ : ∃ p, r = p + 1 := ⟨r - 1, by omega⟩
            obtain ⟨fd', e, -, hpc⟩ := HF.out p (by omega)
            injection e with e
            subst e
            obtain ⟨cv, hcv⟩ : ∃ cv, costV m a b c (f p) (f r) = cv := ⟨_, rfl⟩
            have HCV := Lib.hid hcv
            have hr1 : (0 : Int) < r := by omega
            have hp0 : (0 : Int) ≤ (r : Int) - 1 := by omega
            have hp2 : (r : Int) - 1 < k := by omega
            have hp1 : ((r : Int) - 1).toNat = p := by omega
            have HRP := Lib.hid hrp
            clear hcv hfl hr0 hrp
            go_wp2_with fail
            go_quiet ((go_at_call 55; exact quiet_adds ((costOf_walk A m cp a b c (f p) (f r) _ (HL.out.drewN _) hm cv HCV.out).mono fun _ _ h => ⟨h.1, 0, h.2⟩)))
            clear hp0 hp1 hp2
            have HCO1 : cv ≠ 0 ∧ cv ≠ 16 → Hid (∀ j, j + 1 < r + 1 → costV m a b c (f j) (f (j + 1)) ≠ 0 ∧ costV m a b c (f j) (f (j + 1)) ≠ 16) := fun h j hj => by
              rcases Nat.lt_or_ge (j + 1) r with h' | h'
              · exact HCO.out j h'
              · have e1 : j = p := by have := HRP.out; omega
                have e2 : j + 1 = r := by have := HRP.out; omega
                rw [e2, e1, HCV.out]
                exact h
            have HNO : ¬ (cv ≠ 0 ∧ cv ≠ 16) → Hid (¬ WayOk x m a b c k f) := fun h hw => by
              have h1 := hw.2.2 p (by have := HRP.out; omega)
              have e2 : p + 1 = r := HRP.out.symm
              rw [e2, HCV.out] at h1
              exact h h1
            have HS1 : Hid (GoodG x m a b c → s + cv = wayLen m a b c f (r + 1)) := fun hg => by
              rw [HSM.out hg, ← HCV.out]
              show _ = _ + _
              rw [if_neg (by have := HRP.out; omega)]
              have e : r - 1 = p := by have := HRP.out; omega
              rw [e]
            by_cases hc0 : cv = 0
            · have HN := HNO (fun h => h.1 hc0)
              subst hc0
              clear HCO1 HNO
              go_wp2_with fail
              go_ret2
              exact ⟨0, false, rfl, way_no HN.out, _, rfl⟩
            · by_cases hc1 : cv = 16
              · have HN := HNO (fun h => h.2 hc1)
                subst hc1
                clear HCO1 HNO
                go_wp2_with fail
                go_ret2
                exact ⟨0, false, rfl, way_no HN.out, _, rfl⟩
              · have HC1 := HCO1 ⟨hc0, hc1⟩
                have hd1 : (cv == 0) = false := beq_false_of_ne hc0
                have hd2 : (cv == 16) = false := beq_false_of_ne hc1
                clear hc0 hc1 HCO1 HNO
                go_wp2_with fail
                go_roundw
                case rel =>
                  refine ⟨r + 1, wrap64 (s + cv), by omega, by go_num, by go_num, HIN1, HC1, Lib.hid fun hg => ?_, _, rfl⟩
                  have h1 := wayLen_ranged hg HIN1 (r + 1) (Nat.le_refl _)
                  rw [← HS1.out hg] at h1 ⊢
                  unfold wrap64
                  omega
                case measure => simp [intOf]; omega
      · have er : r = k := by omega
        subst er
        have HOK : Hid (WayTold x m a b c r f s true) := ⟨⟨fun _ => ⟨by omega, HIN.out, HCO.out⟩, fun _ => rfl⟩, (fun h => by cases h), fun _ => HSM.out⟩
        go_wp2_with fail
        go_ret2
        exact ⟨s, true, rfl, HOK.out, q, rfl⟩

end Go.Proofs.YtminfghiejgieaaDoor

/- The walk of the reference's GraphFault. -/
namespace Go.Proofs.YtminfghiejgieaaDoor
open Go.RowKit
set_option linter.unusedVariables false

theorem samePair_iff (a b : Nat → Int) (j : Nat) (u v : Int) : SamePair (a j) (b j) u v ↔ Mt a b j u v := by
  unfold SamePair Mt
  omega

set_option maxRecDepth 100000 in
set_option maxHeartbeats 2000000 in
theorem graphFault_to (n : Nat) (x : Int) (hx : x = (n : Int)) (A : Option Addr) (m cp : Nat) (a b c : Nat → Int) (w : World) (hl : Lnk w A m a b c) (h1 : 1 ≤ n) (h8 : n ≤ 8) (hm : m ≤ 9223372036854775807) (lim : Nat) (hlm : lim ≤ m) (hr : Right n lim a b c) (v : Int)
    (hv : (lim = m ∧ v = 0) ∨ (lim < m ∧ Wrong n lim a b c v)) :
    Calls Tryd.prog 8 #[.int .i64 x, .slice A m cp] w fun e w' => e = .returned (.int .i64 v) ∧ Below w.heap.size w w' := by
  subst hx
  have h1' : (1 : Int) ≤ n := by omega
  have h8' : (n : Int) ≤ 8 := by omega
  have HL := Lib.hid hl
  have HR := Lib.hid hr
  have HV := Lib.hid hv
  clear hl hr hv
  go_enter Tryd.func8, Tryd.ntmps8
  go_wp2_with fail
  go_loopw [5] (fun i wr => ∃ r : Nat, r ≤ lim ∧ i = .int .i64 r ∧ Below w.heap.size w wr) (fun i _ => lim - (intOf i).toNat)
  case atStart => exact ⟨0, by omega, rfl, Below.refl _ _⟩
  case round =>
    obtain ⟨r, hrm, rfl, hb⟩ := hrel
    obtain ⟨wo, hwo⟩ : ∃ wo, wo = wr := ⟨_, rfl⟩
    subst hwo
    by_cases hlt : r < lim
    · have hlt' : (r : Int) < m := by omega
      obtain ⟨ad, rfl, hc0, hc1, hc2⟩ := HL.out.cells hb r (by omega)
      obtain ⟨⟨ha0, ha1, hb0, hb1, hk0, hk1⟩, hne, hnew⟩ := HR.out r hlt
      have hd : (a r == b r) = false := beq_false_of_ne hne
      have HNEW : Hid (∀ j, j < r → ¬ Mt a b j (a r) (b r)) := fun j hj h => hnew j hj ((samePair_iff a b j _ _).2 h)
      have HB := Lib.hid hb
      clear hb hnew hne
      go_wp2_with fail
      go_loopw [7] (fun i wj => ∃ q : Nat, q ≤ r ∧ i = .int .i64 q ∧ ∃ N, wj = (wo.alloc (.cells #[.int .i64 (a r), .int .i64 (b r), .int .i64 (c r)] 69)).drewN N) (fun i _ => r - (intOf i).toNat)
      case atStart => exact ⟨0, by omega, rfl, 0, rfl⟩
      case round =>
        obtain ⟨q, hq, rfl, N, rfl⟩ := hrel
        by_cases hqr : q < r
        · have hqr' : (q : Int) < r := by omega
          have hqm : (q : Int) < m := by omega
          have hbN := (HB.out.alloc HB.out.size (.cells #[.int .i64 (a r), .int .i64 (b r), .int .i64 (c r)] 69))
          obtain ⟨ad', hA', hd0, hd1, hd2⟩ := HL.out.cells hbN q (by omega)
          obtain rfl : ad = ad' := Option.some.inj hA'
          have hmt := HNEW.out q hqr
          clear hA' hbN hd2
          by_cases e1 : a q = a r
          · have e2 : b q ≠ b r := fun e => hmt (.inl ⟨e1, e⟩)
            rw [e1] at hd0
            have hd3 : (b q == b r) = false := beq_false_of_ne e2
            clear e1 e2 hmt
            go_wp2_with fail
            go_quiet (fail)
            go_wp2_with fail
            go_roundw
            case rel => exact ⟨q + 1, by omega, by go_num, _, rfl⟩
            case measure => simp [intOf]; omega
          · have hd1' : (a q == a r) = false := beq_false_of_ne e1
            by_cases e3 : a q = b r
            · have e2 : b q ≠ a r := fun e => hmt (.inr ⟨e3, e⟩)
              have hd3 : (b q == a r) = false := beq_false_of_ne e2
              rw [e3] at hd0 hd1'
              clear e1 e2 e3 hmt
              go_wp2_with fail
              go_quiet (fail)
              go_wp2_with fail
              go_roundw
              case rel => exact ⟨q + 1, by omega, by go_num, _, rfl⟩
              case measure => simp [intOf]; omega
            · have hd3 : (a q == b r) = false := beq_false_of_ne e3
              clear e1 e3 hmt
              go_wp2_with fail
              go_quiet (fail)
              go_wp2_with fail
              go_roundw
              case rel => exact ⟨q + 1, by omega, by go_num, _, rfl⟩
              case measure => simp [intOf]; omega
        · obtain rfl : q = r := by omega
          have HB1 : Hid (Below w.heap.size w ((wo.alloc (.cells #[.int .i64 (a q), .int .i64 (b q), .int .i64 (c q)] 69)).drewN N)) := below_drewN (HB.out.alloc HB.out.size _) N
          go_wp2_with fail
          go_roundw
          case rel => exact ⟨q + 1, by omega, by go_num, HB1.out⟩
          case measure => simp [intOf]; omega
    · have er : r = lim := by omega
      subst er
      rcases HV.out with ⟨e1, rfl⟩ | ⟨hlm', hw⟩
      · subst e1
        go_wp2_with fail
        go_ret
        exact ⟨rfl, hb⟩
      · have hlt' : (r : Int) < m := by omega
        obtain ⟨ad, rfl, hc0, hc1, hc2⟩ := HL.out.cells hb r hlm'
        have HB := Lib.hid hb
        rcases hw with ⟨hbad, rfl⟩ | ⟨⟨ha0, ha1, hb0, hb1, hk0, hk1⟩, he, rfl⟩ | ⟨⟨ha0, ha1, hb0, hb1, hk0, hk1⟩, hne, hold, rfl⟩
        · have hbelow : Hid (Below w.heap.size w (wo.alloc (.cells #[.int .i64 (a r), .int .i64 (b r), .int .i64 (c r)] 69))) := HB.out.alloc HB.out.size _
          clear hb
          by_cases h1 : 0 ≤ a r
          · by_cases h2 : a r < n
            · by_cases h3 : 0 ≤ b r
              · by_cases h4 : b r < n
                · by_cases h5 : 1 ≤ c r
                  · have h6 : 15 < c r := by
                      rcases Int.lt_or_le 15 (c r) with h | h
                      · exact h
                      · exact absurd ⟨h1, h2, h3, h4, h5, h⟩ hbad
                    clear hbad
                    go_wp2_with fail
                    go_ret
                    exact ⟨rfl, hbelow.out⟩
                  · clear hbad
                    have h5' : c r < 1 := by omega
                    go_wp2_with fail
                    go_ret
                    exact ⟨rfl, hbelow.out⟩
                · clear hbad
                  have h4' : (n : Int) ≤ b r := by omega
                  go_wp2_with fail
                  go_ret
                  exact ⟨rfl, hbelow.out⟩
              · clear hbad
                have h3' : b r < 0 := by omega
                go_wp2_with fail
                go_ret
                exact ⟨rfl, hbelow.out⟩
            · clear hbad
              have h2' : (n : Int) ≤ a r := by omega
              go_wp2_with fail
              go_ret
              exact ⟨rfl, hbelow.out⟩
          · clear hbad
            have h1'' : a r < 0 := by omega
            go_wp2_with fail
            go_ret
            exact ⟨rfl, hbelow.out⟩
        · have hbelow : Hid (Below w.heap.size w (wo.alloc (.cells #[.int .i64 (a r), .int .i64 (a r), .int .i64 (c r)] 69))) := HB.out.alloc HB.out.size _
          rw [← he] at hc1
          clear hb he hb0 hb1
          go_wp2_with fail
          go_ret
          exact ⟨rfl, hbelow.out⟩
        · have hd : (a r == b r) = false := beq_false_of_ne hne
          have HOLD : Hid (∃ j, j < r ∧ Mt a b j (a r) (b r)) := by
            obtain ⟨j, hj, h⟩ := hold
            exact ⟨j, hj, (samePair_iff a b j _ _).1 h⟩
          clear hb hne hold
          go_wp2_with fail
          go_loopw [7] (fun i wj => ∃ q : Nat, q ≤ r ∧ i = .int .i64 q ∧ Hid (∀ j, j < q → ¬ Mt a b j (a r) (b r)) ∧ ∃ N, wj = (wo.alloc (.cells #[.int .i64 (a r), .int .i64 (b r), .int .i64 (c r)] 69)).drewN N) (fun i _ => r - (intOf i).toNat)
          case atStart => exact ⟨0, by omega, rfl, Lib.hid (fun j hj => absurd hj (by omega)), 0, rfl⟩
          case round =>
            obtain ⟨q, hq, rfl, hno, N, rfl⟩ := hrel
            have HNO := hno
            clear hno
            by_cases hqr : q < r
            · have hqr' : (q : Int) < r := by omega
              have hqm : (q : Int) < m := by omega
              have hbN := (HB.out.alloc HB.out.size (.cells #[.int .i64 (a r), .int .i64 (b r), .int .i64 (c r)] 69))
              obtain ⟨ad', hA', hd0, hd1, hd2⟩ := HL.out.cells hbN q (by omega)
              obtain rfl : ad = ad' := Option.some.inj hA'
              clear hA' hd2
              have HBE : Hid (∀ K, Below w.heap.size w ((wo.alloc (.cells #[.int .i64 (a r), .int .i64 (b r), .int .i64 (c r)] 69)).drewN K)) := fun K => below_drewN hbN K
              clear hbN
              by_cases hmt : Mt a b q (a r) (b r)
              · by_cases hfst : a q = a r ∧ b q = b r
                · obtain ⟨e1, e2⟩ := hfst
                  rw [e1] at hd0
                  rw [e2] at hd1
                  clear e1 e2 hmt
                  go_wp2_with fail
                  go_quiet (fail)
                  go_wp2_with fail
                  go_ret
                  exact ⟨rfl, by rw [World.drewN_drewN]; exact HBE.out _⟩
                · have hsnd : a q = b r ∧ b q = a r := hmt.resolve_left hfst
                  obtain ⟨e1, e2⟩ := hsnd
                  have hd3 : (b r == a r) = false := beq_false_of_ne fun e => hfst ⟨by omega, by omega⟩
                  rw [e1] at hd0
                  rw [e2] at hd1
                  clear e1 e2 hmt hfst
                  go_wp2_with fail
                  go_quiet (fail)
                  go_wp2_with fail
                  go_ret
                  exact ⟨rfl, by rw [World.drewN_drewN]; exact HBE.out _⟩
              · have HN1 : Hid (∀ j, j < q + 1 → ¬ Mt a b j (a r) (b r)) := fun j hj => by
                  rcases Nat.lt_or_ge j q with h | h
                  · exact HNO.out j h
                  · obtain rfl : j = q := by omega
                    exact hmt
                by_cases e1 : a q = a r
                · have e2 : b q ≠ b r := fun e => hmt (.inl ⟨e1, e⟩)
                  rw [e1] at hd0
                  have hd3 : (b q == b r) = false := beq_false_of_ne e2
                  clear e1 e2 hmt
                  go_wp2_with fail
                  go_quiet (fail)
                  go_wp2_with fail
                  go_roundw
                  case rel => exact ⟨q + 1, by omega, by go_num, HN1, _, rfl⟩
                  case measure => simp [intOf]; omega
                · have hd1' : (a q == a r) = false := beq_false_of_ne e1
                  by_cases e3 : a q = b r
                  · have e2 : b q ≠ a r := fun e => hmt (.inr ⟨e3, e⟩)
                    have hd3 : (b q == a r) = false := beq_false_of_ne e2
                    rw [e3] at hd0 hd1'
                    clear e1 e2 e3 hmt
                    go_wp2_with fail
                    go_quiet (fail)
                    go_wp2_with fail
                    go_roundw
                    case rel => exact ⟨q + 1, by omega, by go_num, HN1, _, rfl⟩
                    case measure => simp [intOf]; omega
                  · have hd3 : (a q == b r) = false := beq_false_of_ne e3
                    clear e1 e3 hmt
                    go_wp2_with fail
                    go_quiet (fail)
                    go_wp2_with fail
                    go_roundw
                    case rel => exact ⟨q + 1, by omega, by go_num, HN1, _, rfl⟩
                    case measure => simp [intOf]; omega
            · exfalso
              obtain ⟨j, hj, h⟩ := HOLD.out
              exact HNO.out j (by omega) h

theorem graphFault_good (x : Int) (A : Option Addr) (m cp : Nat) (a b c : Nat → Int) (w : World) (hl : Lnk w A m a b c) (hm : m ≤ 9223372036854775807) (h : GoodG x m a b c) :
    Calls Tryd.prog 8 #[.int .i64 x, .slice A m cp] w fun e w' => e = .returned (.int .i64 0) ∧ Below w.heap.size w w' := by
  obtain ⟨h1, h8, hr⟩ := h
  exact graphFault_to x.toNat x (by omega) A m cp a b c w hl (by omega) (by omega) hm m (Nat.le_refl _) hr _ (.inl ⟨rfl, rfl⟩)

set_option maxRecDepth 100000 in
set_option maxHeartbeats 1000000 in
theorem graphFault_size (x : Int) (A : Option Addr) (m c : Nat) (w : World) (hx : x < 1 ∨ 8 < x) :
    Calls Tryd.prog 8 #[.int .i64 x, .slice A m c] w fun e w' => e = .returned (.int .i64 1) ∧ Below w.heap.size w w' := by
  rcases hx with hx | hx
  · go_enter Tryd.func8, Tryd.ntmps8
    go_wp2_with fail
    go_ret
    exact ⟨rfl, Below.refl _ _⟩
  · go_enter Tryd.func8, Tryd.ntmps8
    go_wp2_with fail
    go_ret
    exact ⟨rfl, Below.refl _ _⟩

theorem graphFault_bad (x : Int) (A : Option Addr) (m cp : Nat) (a b c : Nat → Int) (w : World) (hl : Lnk w A m a b c) (hm : m ≤ 9223372036854775807) (k : Int) (h : FaultG x m a b c k) :
    Calls Tryd.prog 8 #[.int .i64 x, .slice A m cp] w fun e w' => e = .returned (.int .i64 k) ∧ Below w.heap.size w w' := by
  rcases h with ⟨h, rfl⟩ | ⟨h1, h8, i, hi, hr, hw⟩
  · exact graphFault_size x A m cp w h
  · exact graphFault_to x.toNat x (by omega) A m cp a b c w hl (by omega) (by omega) hm i (by omega) hr _ (.inr ⟨hi, hw⟩)

end Go.Proofs.YtminfghiejgieaaDoor

/- WaysTell: the walk. Printed by gen_waystell.py. -/
namespace Go.Proofs.YtminfghiejgieaaDoor
open Go.RowKit
set_option linter.unusedVariables false

set_option maxRecDepth 100000 in
set_option maxHeartbeats 8000000 in
theorem waysTell_walk (x : Int) (A : Option Addr) (m cp : Nat) (a b c : Nat → Int) (z y : Int) (F : Option Addr) (k ck : Nat) (f : Nat → Int) (w : World) (hg : ErrT w) (hl : Lnk w A m a b c) (hm : m ≤ 9223372036854775807) (hf : Vec w F k f) (hk : k ≤ 140737488351232) :
    Calls Tryd.prog 5 #[.int .i64 x, .slice A m cp, .int .i64 z, .int .i64 y, .slice F k ck] w fun e w' => e = .returned (.bool true) ∧ Below w.heap.size w w' := by
  have HL := Lib.hid hl
  have HF := Lib.hid hf
  have HET := Lib.hid hg
  clear hl hf hg
  go_enter Tryd.func5, Tryd.ntmps5
  go_wp2_with fail
  refine (gone_walk w).mono ?_
  rintro e w1 ⟨rfl, hb1⟩
  have HB1 := Lib.hid hb1
  clear hb1
  go_wp2_with fail
  rcases graph_cases x m a b c with hgd | ⟨v, hv, hf⟩
  · have HG := Lib.hid hgd
    have hcall := graphFault_good x A m cp a b c w1 (HL.out.keep HB1.out) hm HG.out
    refine hcall.mono ?_
    clear hcall
    rintro e w2 ⟨rfl, hb2⟩
    have HB2 := Lib.hid (keep HB1.out hb2)
    have HC2 := Lib.hid hb2
    clear hb2
    obtain ⟨n, rfl, hn1, hn8, hr⟩ := good_nat hgd
    have hn8' : (n : Int) ≤ 8 := by omega
    have HR := Lib.hid hr
    clear hgd hr
    go_wp2_with fail
    have hcall := lengthOf_walk n A m cp a b c F k ck f w2 (HL.out.keep HB2.out) hm (HF.out.keep HB2.out) hk
    refine hcall.mono ?_
    clear hcall
    rintro e w3 ⟨s0, ok, rfl, ⟨ht1, ht2, ht3⟩, q3, hw3⟩
    have HB3 : Hid (Below w.heap.size w w3) := by subst w3; exact below_drewN HB2.out q3
    clear hw3 HB2
    cases ok
    · have HW : Hid (¬ WayOk n m a b c k f) := Lib.hid fun h => by cases ht1.2 h
      obtain rfl := ht2 rfl
      clear ht1 ht2 ht3
      by_cases hin : (0 ≤ z ∧ z < n) ∧ (0 ≤ y ∧ y < n)
      · obtain ⟨t, rfl⟩ : ∃ t : Nat, y = t := ⟨y.toNat, by omega⟩
        obtain ⟨s, rfl⟩ : ∃ s : Nat, z = s := ⟨z.toNat, by omega⟩
        have ht : t < n := by omega
        have hs : s < n := by omega
        have hs' : (s : Int) < n := by omega
        have hd1 : decide ((s : Int) < 0) = false := decide_eq_false (by omega)
        have hd2 : decide (n ≤ s) = false := decide_eq_false (by omega)
        have hd3 : decide ((t : Int) < 0) = false := decide_eq_false (by omega)
        have hd4 : decide (n ≤ t) = false := decide_eq_false (by omega)
        clear hin
        obtain ⟨d, hd⟩ : ∃ d, endF t a b c m s = d := ⟨_, rfl⟩
        have HD := Lib.hid hd
        have hdr := end_ranged (t := t) HR.out s hs
        rw [hd] at hdr
        clear hd
        go_wp2_with fail
        have hcall := farOf_walk n t n t rfl rfl A m cp a b c w3 (HL.out.keep HB3.out) hm hn1 hn8 HR.out ht
        refine hcall.mono ?_
        clear hcall
        rintro e w4 ⟨g4, c4, rfl, -, hrow4, hb4⟩
        have hcs := hrow4.cell hs
        rw [HD.out] at hcs
        have HB4 := Lib.hid (keep HB3.out hb4)
        clear hrow4 hb4
        by_cases h16 : d < 16
        · have HWY := Lib.hid (shL_ways (f := 17) (cost_m HR.out) (far_end HR.out ht) hs (by rw [HD.out]; omega) (by rw [HD.out]; omega))
          obtain ⟨kp, hkt, hkn⟩ := fst_end (cost_m HR.out) (far_end HR.out ht) _ s hs (Nat.le_refl _) (by rw [HD.out]; omega)
          obtain ⟨l0, rest, hsh, hl0, hat⟩ := shL_head (cost_m HR.out) (far_end HR.out ht) ht 17 s kp hs (by rw [HD.out]; omega) (by rw [HD.out]; omega) hkt hkn
          rw [HD.out] at hsh
          have HMO := Lib.hid (shL_most (f := 17) (cost_m HR.out) (far_end HR.out ht) ht hn8 hs (show d ≤ (17 : Nat) by omega) h16 (by rw [HD.out]; omega))
          go_wp2_with fail
          have hcall := farOf_walk n t n t rfl rfl A m cp a b c w4 (HL.out.keep HB4.out) hm hn1 hn8 HR.out ht
          refine hcall.mono ?_
          clear hcall
          rintro e w5 ⟨g5, c5, rfl, -, hrow5, hb5⟩
          have hcs5 := hrow5.cell hs
          rw [HD.out] at hcs5
          have HB5 := Lib.hid (keep HB4.out hb5)
          clear hrow5 hb5 hcs
          go_wp2_with fail
          have hcall := shortest_walk n t A m cp a b c hm hn8 HR.out ht 17 s d w5 (by omega) hs hdr.1 (by omega) h16 (by rw [HD.out]; omega) (HL.out.keep HB5.out)
          refine hcall.mono ?_
          clear hcall
          rintro e w6 ⟨v6, rfl, hX6, hb6⟩
          have HB6 := Lib.hid (keep HB5.out hb6)
          clear hb6 hcs5
          obtain ⟨L, hL⟩ : ∃ L, shL n t (costF m a b c) 17 s d = L := ⟨_, rfl⟩
          rw [hL] at hX6 hsh HMO
          have HWY' : Hid ((L.length : Int) = waysF n t (costF m a b c) (endF t a b c m) s) := by
            rw [← hL, ← HWY.out, HD.out]
            exact Lib.hid rfl
          have hl1 : 1 ≤ L.length := by rw [hsh]; simp
          have hge : L.getD 0 [] = l0 := by rw [hsh]; rfl
          have HAT := Lib.hid hat
          have HL0 := Lib.hid hl0
          have HKT := Lib.hid hkt
          have HKN := Lib.hid hkn
          obtain ⟨A6, c6, rfl, hmx⟩ := Rag.mat hX6
          obtain ⟨ad, Ar, cr, rfl, hal, hac, hav⟩ := hmx 0 hl1
          simp only [hge] at hac hav
          rw [Addr.add_zero'] at hac
          have HAV := Lib.hid hav
          have hl1' : (0 : Int) < L.length := by omega
          have hlz : ((L.length : Int) == 0) = false := beq_false_of_ne (by omega)
          have hlz2 : (L.length == 0) = false := beq_false_of_ne (by omega)
          have hln : (L.length : Int) ≤ 9223372036854775807 := by have := HMO.out; omega
          clear hX6 hsh hmx hav hge hat hl0 hkt hkn hL HWY
          go_wp2_with fail
          have hcall := wayLength_ok n n rfl A m cp a b c F k ck f w6 (HL.out.keep HB6.out) hm HG.out (HF.out.keep HB6.out) hk
          refine hcall.mono ?_
          clear hcall
          rintro e w7 ⟨h, hb7⟩
          have HB7 := Lib.hid (keep HB6.out hb7)
          have HC7 := Lib.hid hb7
          clear hb7
          obtain ⟨-, rfl⟩ : _ ∧ _ := h.resolve_left fun h => HW.out h.1
          go_wp2_with fail
          have hcall := err_no 3 3 true ⟨fun _ => rfl, fun _ => rfl⟩ w7 (HET.out.keep HB7.out)
          refine hcall.mono ?_
          clear hcall
          rintro e w8 ⟨rfl, hb8⟩
          have HB8 := Lib.hid (keep HB7.out hb8)
          have HC8 := Lib.hid hb8
          clear hb8
          go_wp2_with fail
          have hcall := count_ok n s t n s t rfl rfl rfl A m cp a b c w8 (HL.out.keep HB8.out) hm HG.out hs ht
          rw [← HWY'.out] at hcall
          refine hcall.mono ?_
          clear hcall
          rintro e w9 ⟨rfl, hb9⟩
          have HB9 := Lib.hid (keep HB8.out hb9)
          have HC9 := Lib.hid hb9
          clear hb9
          go_wp2_with fail
          have hcall := err_nil 0 true ⟨fun _ => rfl, fun _ => rfl⟩ w9
          refine hcall.mono ?_
          clear hcall
          rintro e w10 ⟨rfl, hb10⟩
          have HB10 := Lib.hid (keep HB9.out hb10)
          have HC10 := Lib.hid hb10
          clear hb10
          go_wp2_with fail
          have hcall := first_ok n s t n s t rfl rfl rfl A m cp a b c w10 (HL.out.keep HB10.out) hm HG.out hs ht (by rw [HD.out]; omega)
          refine hcall.mono ?_
          clear hcall
          rintro e w11 ⟨kq, vq, ⟨hqt, hqn⟩, hq16, rfl, hown, hb11⟩
          have ekq : kq = kp := by
            rcases Nat.lt_trichotomy kq kp with h | h | h
            · exact absurd hqt (HKN.out kq h)
            · exact h
            · exact absurd HKT.out (hqn kp h)
          subst ekq
          obtain ⟨Av, cv, rfl, hv⟩ := hown.vec
          have HV := Lib.hid hv
          have HB11 := Lib.hid (keep HB10.out hb11)
          have HC11 := Lib.hid hb11
          clear hown hv hqt hqn hb11
          go_wp2_with fail
          have hcall := err_nil 0 true ⟨fun _ => rfl, fun _ => rfl⟩ w11
          refine hcall.mono ?_
          clear hcall
          rintro e w12 ⟨rfl, hb12⟩
          have HB12 := Lib.hid (keep HB11.out hb12)
          have HC12 := Lib.hid hb12
          clear hb12
          have HV2 := Lib.hid (HV.out.keep HC12.out)
          go_wp2_with fail
          have hsv : SameV (kq + 1) l0.length (fun j => ((fstF n t (costF m a b c) (endF t a b c m) s j : Nat) : Int)) (atL l0) := ⟨HL0.out.symm, fun j hj => (HAT.out j (by omega)).symm⟩
          have hcall := ints_walk Av Ar (kq + 1) l0.length cv cr _ (atL l0) w12 HV2.out (HAV.out.keep (keep (keep (keep (keep (keep HC7.out HC8.out) HC9.out) HC10.out) HC11.out) HC12.out)) (by omega) (by have := HL0.out; omega) true ⟨fun _ => hsv, fun _ => rfl⟩
          refine hcall.mono ?_
          clear hcall
          rintro e w13 ⟨rfl, k13, hw13⟩
          have HB13 : Hid (Below w.heap.size w w13) := by subst w13; exact below_drewN HB12.out k13
          clear hw13
          clear hsv
          go_wp2_with fail
          go_ret
          exact ⟨rfl, HB13.out⟩
        · have HZ : Hid (waysF n t (costF m a b c) (endF t a b c m) s = 0) := Lib.hid (by unfold waysF; rw [if_neg (by rw [HD.out]; omega)])
          go_wp2_with fail
          have hcall := wayLength_ok n n rfl A m cp a b c F k ck f w4 (HL.out.keep HB4.out) hm HG.out (HF.out.keep HB4.out) hk
          refine hcall.mono ?_
          clear hcall
          rintro e w5 ⟨h, hb5⟩
          have HB5 := Lib.hid (keep HB4.out hb5)
          have HC5 := Lib.hid hb5
          clear hb5
          obtain ⟨-, rfl⟩ : _ ∧ _ := h.resolve_left fun h => HW.out h.1
          go_wp2_with fail
          have hcall := err_no 3 3 true ⟨fun _ => rfl, fun _ => rfl⟩ w5 (HET.out.keep HB5.out)
          refine hcall.mono ?_
          clear hcall
          rintro e w6 ⟨rfl, hb6⟩
          have HB6 := Lib.hid (keep HB5.out hb6)
          have HC6 := Lib.hid hb6
          clear hb6
          go_wp2_with fail
          have hcall := count_ok n s t n s t rfl rfl rfl A m cp a b c w6 (HL.out.keep HB6.out) hm HG.out hs ht
          rw [HZ.out] at hcall
          refine hcall.mono ?_
          clear hcall
          rintro e w7 ⟨rfl, hb7⟩
          have HB7 := Lib.hid (keep HB6.out hb7)
          have HC7 := Lib.hid hb7
          clear hb7
          go_wp2_with fail
          have hcall := err_nil 0 true ⟨fun _ => rfl, fun _ => rfl⟩ w7
          refine hcall.mono ?_
          clear hcall
          rintro e w8 ⟨rfl, hb8⟩
          have HB8 := Lib.hid (keep HB7.out hb8)
          have HC8 := Lib.hid hb8
          clear hb8
          go_wp2_with fail
          have hcall := first_none n s t n s t rfl rfl rfl A m cp a b c w8 (HL.out.keep HB8.out) hm HG.out hs ht (by rw [HD.out]; omega)
          refine hcall.mono ?_
          clear hcall
          rintro e w9 ⟨rfl, hb9⟩
          have HB9 := Lib.hid (keep HB8.out hb9)
          have HC9 := Lib.hid hb9
          clear hb9
          go_wp2_with fail
          have hcall := err_no 2 2 true ⟨fun _ => rfl, fun _ => rfl⟩ w9 (HET.out.keep HB9.out)
          refine hcall.mono ?_
          clear hcall
          rintro e w10 ⟨rfl, hb10⟩
          have HB10 := Lib.hid (keep HB9.out hb10)
          have HC10 := Lib.hid hb10
          clear hb10
          go_wp2_with fail
          have hcall := ints_walk none none 0 0 0 0 (fun _ => 0) (fun _ => 0) w10 (fun j hj => absurd hj (by omega)) (fun j hj => absurd hj (by omega)) (by omega) (by omega) true ⟨fun _ => ⟨rfl, fun _ _ => rfl⟩, fun _ => rfl⟩
          refine hcall.mono ?_
          clear hcall
          rintro e w11 ⟨rfl, k11, hw11⟩
          have HB11 : Hid (Below w.heap.size w w11) := by subst w11; exact below_drewN HB10.out k11
          clear hw11
          go_wp2_with fail
          go_ret
          exact ⟨rfl, HB11.out⟩
      · have HBW : Hid (BadW n m a b c z y 1) := Lib.hid (.inr ⟨HG.out, by omega, rfl⟩)
        have hcs : decide (z < 0) = true ∨ (decide (z < 0) = false ∧ decide ((n : Int) ≤ z) = true) ∨ (decide (z < 0) = false ∧ decide ((n : Int) ≤ z) = false ∧ decide (y < 0) = true) ∨ (decide (z < 0) = false ∧ decide ((n : Int) ≤ z) = false ∧ decide (y < 0) = false ∧ decide ((n : Int) ≤ y) = true) := by
          simp only [decide_eq_true_eq, decide_eq_false_iff_not]; omega
        clear hin
        rcases hcs with e1 | ⟨e1, e2⟩ | ⟨e1, e2, e3⟩ | ⟨e1, e2, e3, e4⟩
        all_goals
          go_wp2_with fail
          have hcall := wayLength_ok n n rfl A m cp a b c F k ck f w3 (HL.out.keep HB3.out) hm HG.out (HF.out.keep HB3.out) hk
          refine hcall.mono ?_
          clear hcall
          rintro e w4 ⟨h, hb4⟩
          have HB4 := Lib.hid (keep HB3.out hb4)
          have HC4 := Lib.hid hb4
          clear hb4
          obtain ⟨-, rfl⟩ : _ ∧ _ := h.resolve_left fun h => HW.out h.1
          go_wp2_with fail
          have hcall := err_no 3 3 true ⟨fun _ => rfl, fun _ => rfl⟩ w4 (HET.out.keep HB4.out)
          refine hcall.mono ?_
          clear hcall
          rintro e w5 ⟨rfl, hb5⟩
          have HB5 := Lib.hid (keep HB4.out hb5)
          have HC5 := Lib.hid hb5
          clear hb5
          go_wp2_with fail
          have hcall := count_bad n z y A m cp a b c w5 (HL.out.keep HB5.out) hm 1 (HBW.out)
          refine hcall.mono ?_
          clear hcall
          rintro e w6 ⟨rfl, hb6⟩
          have HB6 := Lib.hid (keep HB5.out hb6)
          have HC6 := Lib.hid hb6
          clear hb6
          go_wp2_with fail
          have hcall := err_no 1 1 true ⟨fun _ => rfl, fun _ => rfl⟩ w6 (HET.out.keep HB6.out)
          refine hcall.mono ?_
          clear hcall
          rintro e w7 ⟨rfl, hb7⟩
          have HB7 := Lib.hid (keep HB6.out hb7)
          have HC7 := Lib.hid hb7
          clear hb7
          go_wp2_with fail
          have hcall := first_bad n z y A m cp a b c w7 (HL.out.keep HB7.out) hm 1 (HBW.out)
          refine hcall.mono ?_
          clear hcall
          rintro e w8 ⟨rfl, hb8⟩
          have HB8 := Lib.hid (keep HB7.out hb8)
          have HC8 := Lib.hid hb8
          clear hb8
          go_wp2_with fail
          have hcall := err_no 1 1 true ⟨fun _ => rfl, fun _ => rfl⟩ w8 (HET.out.keep HB8.out)
          refine hcall.mono ?_
          clear hcall
          rintro e w9 ⟨rfl, hb9⟩
          have HB9 := Lib.hid (keep HB8.out hb9)
          have HC9 := Lib.hid hb9
          clear hb9
          go_wp2_with fail
          have hcall := ints_walk none none 0 0 0 0 (fun _ => 0) (fun _ => 0) w9 (fun j hj => absurd hj (by omega)) (fun j hj => absurd hj (by omega)) (by omega) (by omega) true ⟨fun _ => ⟨rfl, fun _ _ => rfl⟩, fun _ => rfl⟩
          refine hcall.mono ?_
          clear hcall
          rintro e w10 ⟨rfl, k10, hw10⟩
          have HB10 : Hid (Below w.heap.size w w10) := by subst w10; exact below_drewN HB9.out k10
          clear hw10
          go_wp2_with fail
          go_ret
          exact ⟨rfl, HB10.out⟩
    · have HW := Lib.hid (ht1.1 rfl)
      have HS := Lib.hid (ht3 rfl HG.out)
      clear ht1 ht2 ht3
      by_cases hin : (0 ≤ z ∧ z < n) ∧ (0 ≤ y ∧ y < n)
      · obtain ⟨t, rfl⟩ : ∃ t : Nat, y = t := ⟨y.toNat, by omega⟩
        obtain ⟨s, rfl⟩ : ∃ s : Nat, z = s := ⟨z.toNat, by omega⟩
        have ht : t < n := by omega
        have hs : s < n := by omega
        have hs' : (s : Int) < n := by omega
        have hd1 : decide ((s : Int) < 0) = false := decide_eq_false (by omega)
        have hd2 : decide (n ≤ s) = false := decide_eq_false (by omega)
        have hd3 : decide ((t : Int) < 0) = false := decide_eq_false (by omega)
        have hd4 : decide (n ≤ t) = false := decide_eq_false (by omega)
        clear hin
        obtain ⟨d, hd⟩ : ∃ d, endF t a b c m s = d := ⟨_, rfl⟩
        have HD := Lib.hid hd
        have hdr := end_ranged (t := t) HR.out s hs
        rw [hd] at hdr
        clear hd
        go_wp2_with fail
        have hcall := farOf_walk n t n t rfl rfl A m cp a b c w3 (HL.out.keep HB3.out) hm hn1 hn8 HR.out ht
        refine hcall.mono ?_
        clear hcall
        rintro e w4 ⟨g4, c4, rfl, -, hrow4, hb4⟩
        have hcs := hrow4.cell hs
        rw [HD.out] at hcs
        have HB4 := Lib.hid (keep HB3.out hb4)
        clear hrow4 hb4
        by_cases h16 : d < 16
        · have HWY := Lib.hid (shL_ways (f := 17) (cost_m HR.out) (far_end HR.out ht) hs (by rw [HD.out]; omega) (by rw [HD.out]; omega))
          obtain ⟨kp, hkt, hkn⟩ := fst_end (cost_m HR.out) (far_end HR.out ht) _ s hs (Nat.le_refl _) (by rw [HD.out]; omega)
          obtain ⟨l0, rest, hsh, hl0, hat⟩ := shL_head (cost_m HR.out) (far_end HR.out ht) ht 17 s kp hs (by rw [HD.out]; omega) (by rw [HD.out]; omega) hkt hkn
          rw [HD.out] at hsh
          have HMO := Lib.hid (shL_most (f := 17) (cost_m HR.out) (far_end HR.out ht) ht hn8 hs (show d ≤ (17 : Nat) by omega) h16 (by rw [HD.out]; omega))
          go_wp2_with fail
          have hcall := farOf_walk n t n t rfl rfl A m cp a b c w4 (HL.out.keep HB4.out) hm hn1 hn8 HR.out ht
          refine hcall.mono ?_
          clear hcall
          rintro e w5 ⟨g5, c5, rfl, -, hrow5, hb5⟩
          have hcs5 := hrow5.cell hs
          rw [HD.out] at hcs5
          have HB5 := Lib.hid (keep HB4.out hb5)
          clear hrow5 hb5 hcs
          go_wp2_with fail
          have hcall := shortest_walk n t A m cp a b c hm hn8 HR.out ht 17 s d w5 (by omega) hs hdr.1 (by omega) h16 (by rw [HD.out]; omega) (HL.out.keep HB5.out)
          refine hcall.mono ?_
          clear hcall
          rintro e w6 ⟨v6, rfl, hX6, hb6⟩
          have HB6 := Lib.hid (keep HB5.out hb6)
          clear hb6 hcs5
          obtain ⟨L, hL⟩ : ∃ L, shL n t (costF m a b c) 17 s d = L := ⟨_, rfl⟩
          rw [hL] at hX6 hsh HMO
          have HWY' : Hid ((L.length : Int) = waysF n t (costF m a b c) (endF t a b c m) s) := by
            rw [← hL, ← HWY.out, HD.out]
            exact Lib.hid rfl
          have hl1 : 1 ≤ L.length := by rw [hsh]; simp
          have hge : L.getD 0 [] = l0 := by rw [hsh]; rfl
          have HAT := Lib.hid hat
          have HL0 := Lib.hid hl0
          have HKT := Lib.hid hkt
          have HKN := Lib.hid hkn
          obtain ⟨A6, c6, rfl, hmx⟩ := Rag.mat hX6
          obtain ⟨ad, Ar, cr, rfl, hal, hac, hav⟩ := hmx 0 hl1
          simp only [hge] at hac hav
          rw [Addr.add_zero'] at hac
          have HAV := Lib.hid hav
          have hl1' : (0 : Int) < L.length := by omega
          have hlz : ((L.length : Int) == 0) = false := beq_false_of_ne (by omega)
          have hlz2 : (L.length == 0) = false := beq_false_of_ne (by omega)
          have hln : (L.length : Int) ≤ 9223372036854775807 := by have := HMO.out; omega
          clear hX6 hsh hmx hav hge hat hl0 hkt hkn hL HWY
          go_wp2_with fail
          have hcall := wayLength_ok n n rfl A m cp a b c F k ck f w6 (HL.out.keep HB6.out) hm HG.out (HF.out.keep HB6.out) hk
          refine hcall.mono ?_
          clear hcall
          rintro e w7 ⟨h, hb7⟩
          have HB7 := Lib.hid (keep HB6.out hb7)
          have HC7 := Lib.hid hb7
          clear hb7
          obtain ⟨-, rfl⟩ : _ ∧ _ := h.resolve_right fun h => h.1 HW.out
          rw [← HS.out]
          go_wp2_with fail
          have hcall := err_nil 0 true ⟨fun _ => rfl, fun _ => rfl⟩ w7
          refine hcall.mono ?_
          clear hcall
          rintro e w8 ⟨rfl, hb8⟩
          have HB8 := Lib.hid (keep HB7.out hb8)
          have HC8 := Lib.hid hb8
          clear hb8
          go_wp2_with fail
          have hcall := count_ok n s t n s t rfl rfl rfl A m cp a b c w8 (HL.out.keep HB8.out) hm HG.out hs ht
          rw [← HWY'.out] at hcall
          refine hcall.mono ?_
          clear hcall
          rintro e w9 ⟨rfl, hb9⟩
          have HB9 := Lib.hid (keep HB8.out hb9)
          have HC9 := Lib.hid hb9
          clear hb9
          go_wp2_with fail
          have hcall := err_nil 0 true ⟨fun _ => rfl, fun _ => rfl⟩ w9
          refine hcall.mono ?_
          clear hcall
          rintro e w10 ⟨rfl, hb10⟩
          have HB10 := Lib.hid (keep HB9.out hb10)
          have HC10 := Lib.hid hb10
          clear hb10
          go_wp2_with fail
          have hcall := first_ok n s t n s t rfl rfl rfl A m cp a b c w10 (HL.out.keep HB10.out) hm HG.out hs ht (by rw [HD.out]; omega)
          refine hcall.mono ?_
          clear hcall
          rintro e w11 ⟨kq, vq, ⟨hqt, hqn⟩, hq16, rfl, hown, hb11⟩
          have ekq : kq = kp := by
            rcases Nat.lt_trichotomy kq kp with h | h | h
            · exact absurd hqt (HKN.out kq h)
            · exact h
            · exact absurd HKT.out (hqn kp h)
          subst ekq
          obtain ⟨Av, cv, rfl, hv⟩ := hown.vec
          have HV := Lib.hid hv
          have HB11 := Lib.hid (keep HB10.out hb11)
          have HC11 := Lib.hid hb11
          clear hown hv hqt hqn hb11
          go_wp2_with fail
          have hcall := err_nil 0 true ⟨fun _ => rfl, fun _ => rfl⟩ w11
          refine hcall.mono ?_
          clear hcall
          rintro e w12 ⟨rfl, hb12⟩
          have HB12 := Lib.hid (keep HB11.out hb12)
          have HC12 := Lib.hid hb12
          clear hb12
          have HV2 := Lib.hid (HV.out.keep HC12.out)
          go_wp2_with fail
          have hsv : SameV (kq + 1) l0.length (fun j => ((fstF n t (costF m a b c) (endF t a b c m) s j : Nat) : Int)) (atL l0) := ⟨HL0.out.symm, fun j hj => (HAT.out j (by omega)).symm⟩
          have hcall := ints_walk Av Ar (kq + 1) l0.length cv cr _ (atL l0) w12 HV2.out (HAV.out.keep (keep (keep (keep (keep (keep HC7.out HC8.out) HC9.out) HC10.out) HC11.out) HC12.out)) (by omega) (by have := HL0.out; omega) true ⟨fun _ => hsv, fun _ => rfl⟩
          refine hcall.mono ?_
          clear hcall
          rintro e w13 ⟨rfl, k13, hw13⟩
          have HB13 : Hid (Below w.heap.size w w13) := by subst w13; exact below_drewN HB12.out k13
          clear hw13
          clear hsv
          go_wp2_with fail
          go_ret
          exact ⟨rfl, HB13.out⟩
        · have HZ : Hid (waysF n t (costF m a b c) (endF t a b c m) s = 0) := Lib.hid (by unfold waysF; rw [if_neg (by rw [HD.out]; omega)])
          go_wp2_with fail
          have hcall := wayLength_ok n n rfl A m cp a b c F k ck f w4 (HL.out.keep HB4.out) hm HG.out (HF.out.keep HB4.out) hk
          refine hcall.mono ?_
          clear hcall
          rintro e w5 ⟨h, hb5⟩
          have HB5 := Lib.hid (keep HB4.out hb5)
          have HC5 := Lib.hid hb5
          clear hb5
          obtain ⟨-, rfl⟩ : _ ∧ _ := h.resolve_right fun h => h.1 HW.out
          rw [← HS.out]
          go_wp2_with fail
          have hcall := err_nil 0 true ⟨fun _ => rfl, fun _ => rfl⟩ w5
          refine hcall.mono ?_
          clear hcall
          rintro e w6 ⟨rfl, hb6⟩
          have HB6 := Lib.hid (keep HB5.out hb6)
          have HC6 := Lib.hid hb6
          clear hb6
          go_wp2_with fail
          have hcall := count_ok n s t n s t rfl rfl rfl A m cp a b c w6 (HL.out.keep HB6.out) hm HG.out hs ht
          rw [HZ.out] at hcall
          refine hcall.mono ?_
          clear hcall
          rintro e w7 ⟨rfl, hb7⟩
          have HB7 := Lib.hid (keep HB6.out hb7)
          have HC7 := Lib.hid hb7
          clear hb7
          go_wp2_with fail
          have hcall := err_nil 0 true ⟨fun _ => rfl, fun _ => rfl⟩ w7
          refine hcall.mono ?_
          clear hcall
          rintro e w8 ⟨rfl, hb8⟩
          have HB8 := Lib.hid (keep HB7.out hb8)
          have HC8 := Lib.hid hb8
          clear hb8
          go_wp2_with fail
          have hcall := first_none n s t n s t rfl rfl rfl A m cp a b c w8 (HL.out.keep HB8.out) hm HG.out hs ht (by rw [HD.out]; omega)
          refine hcall.mono ?_
          clear hcall
          rintro e w9 ⟨rfl, hb9⟩
          have HB9 := Lib.hid (keep HB8.out hb9)
          have HC9 := Lib.hid hb9
          clear hb9
          go_wp2_with fail
          have hcall := err_no 2 2 true ⟨fun _ => rfl, fun _ => rfl⟩ w9 (HET.out.keep HB9.out)
          refine hcall.mono ?_
          clear hcall
          rintro e w10 ⟨rfl, hb10⟩
          have HB10 := Lib.hid (keep HB9.out hb10)
          have HC10 := Lib.hid hb10
          clear hb10
          go_wp2_with fail
          have hcall := ints_walk none none 0 0 0 0 (fun _ => 0) (fun _ => 0) w10 (fun j hj => absurd hj (by omega)) (fun j hj => absurd hj (by omega)) (by omega) (by omega) true ⟨fun _ => ⟨rfl, fun _ _ => rfl⟩, fun _ => rfl⟩
          refine hcall.mono ?_
          clear hcall
          rintro e w11 ⟨rfl, k11, hw11⟩
          have HB11 : Hid (Below w.heap.size w w11) := by subst w11; exact below_drewN HB10.out k11
          clear hw11
          go_wp2_with fail
          go_ret
          exact ⟨rfl, HB11.out⟩
      · have HBW : Hid (BadW n m a b c z y 1) := Lib.hid (.inr ⟨HG.out, by omega, rfl⟩)
        have hcs : decide (z < 0) = true ∨ (decide (z < 0) = false ∧ decide ((n : Int) ≤ z) = true) ∨ (decide (z < 0) = false ∧ decide ((n : Int) ≤ z) = false ∧ decide (y < 0) = true) ∨ (decide (z < 0) = false ∧ decide ((n : Int) ≤ z) = false ∧ decide (y < 0) = false ∧ decide ((n : Int) ≤ y) = true) := by
          simp only [decide_eq_true_eq, decide_eq_false_iff_not]; omega
        clear hin
        rcases hcs with e1 | ⟨e1, e2⟩ | ⟨e1, e2, e3⟩ | ⟨e1, e2, e3, e4⟩
        all_goals
          go_wp2_with fail
          have hcall := wayLength_ok n n rfl A m cp a b c F k ck f w3 (HL.out.keep HB3.out) hm HG.out (HF.out.keep HB3.out) hk
          refine hcall.mono ?_
          clear hcall
          rintro e w4 ⟨h, hb4⟩
          have HB4 := Lib.hid (keep HB3.out hb4)
          have HC4 := Lib.hid hb4
          clear hb4
          obtain ⟨-, rfl⟩ : _ ∧ _ := h.resolve_right fun h => h.1 HW.out
          rw [← HS.out]
          go_wp2_with fail
          have hcall := err_nil 0 true ⟨fun _ => rfl, fun _ => rfl⟩ w4
          refine hcall.mono ?_
          clear hcall
          rintro e w5 ⟨rfl, hb5⟩
          have HB5 := Lib.hid (keep HB4.out hb5)
          have HC5 := Lib.hid hb5
          clear hb5
          go_wp2_with fail
          have hcall := count_bad n z y A m cp a b c w5 (HL.out.keep HB5.out) hm 1 (HBW.out)
          refine hcall.mono ?_
          clear hcall
          rintro e w6 ⟨rfl, hb6⟩
          have HB6 := Lib.hid (keep HB5.out hb6)
          have HC6 := Lib.hid hb6
          clear hb6
          go_wp2_with fail
          have hcall := err_no 1 1 true ⟨fun _ => rfl, fun _ => rfl⟩ w6 (HET.out.keep HB6.out)
          refine hcall.mono ?_
          clear hcall
          rintro e w7 ⟨rfl, hb7⟩
          have HB7 := Lib.hid (keep HB6.out hb7)
          have HC7 := Lib.hid hb7
          clear hb7
          go_wp2_with fail
          have hcall := first_bad n z y A m cp a b c w7 (HL.out.keep HB7.out) hm 1 (HBW.out)
          refine hcall.mono ?_
          clear hcall
          rintro e w8 ⟨rfl, hb8⟩
          have HB8 := Lib.hid (keep HB7.out hb8)
          have HC8 := Lib.hid hb8
          clear hb8
          go_wp2_with fail
          have hcall := err_no 1 1 true ⟨fun _ => rfl, fun _ => rfl⟩ w8 (HET.out.keep HB8.out)
          refine hcall.mono ?_
          clear hcall
          rintro e w9 ⟨rfl, hb9⟩
          have HB9 := Lib.hid (keep HB8.out hb9)
          have HC9 := Lib.hid hb9
          clear hb9
          go_wp2_with fail
          have hcall := ints_walk none none 0 0 0 0 (fun _ => 0) (fun _ => 0) w9 (fun j hj => absurd hj (by omega)) (fun j hj => absurd hj (by omega)) (by omega) (by omega) true ⟨fun _ => ⟨rfl, fun _ _ => rfl⟩, fun _ => rfl⟩
          refine hcall.mono ?_
          clear hcall
          rintro e w10 ⟨rfl, k10, hw10⟩
          have HB10 : Hid (Below w.heap.size w w10) := by subst w10; exact below_drewN HB9.out k10
          clear hw10
          go_wp2_with fail
          go_ret
          exact ⟨rfl, HB10.out⟩
  · have HFG := Lib.hid hf
    have hv0 : (v == 0) = false := beq_false_of_ne (by rcases hv with h | h | h <;> omega)
    clear hf hv
    have hcall := graphFault_bad x A m cp a b c w1 (HL.out.keep HB1.out) hm v HFG.out
    refine hcall.mono ?_
    clear hcall
    rintro e w2 ⟨rfl, hb2⟩
    have HB2 := Lib.hid (keep HB1.out hb2)
    have HC2 := Lib.hid hb2
    clear hb2
    go_wp2_with fail
    have hcall := wayLength_bad x A m cp a b c F k ck w2 (HL.out.keep HB2.out) hm v HFG.out
    refine hcall.mono ?_
    clear hcall
    rintro e w3 ⟨rfl, hb3⟩
    have HB3 := Lib.hid (keep HB2.out hb3)
    have HC3 := Lib.hid hb3
    clear hb3
    go_wp2_with fail
    have hcall := err_no v v true ⟨fun _ => rfl, fun _ => rfl⟩ w3 (HET.out.keep HB3.out)
    refine hcall.mono ?_
    clear hcall
    rintro e w4 ⟨rfl, hb4⟩
    have HB4 := Lib.hid (keep HB3.out hb4)
    have HC4 := Lib.hid hb4
    clear hb4
    go_wp2_with fail
    have hcall := count_bad x z y A m cp a b c w4 (HL.out.keep HB4.out) hm v (.inl HFG.out)
    refine hcall.mono ?_
    clear hcall
    rintro e w5 ⟨rfl, hb5⟩
    have HB5 := Lib.hid (keep HB4.out hb5)
    have HC5 := Lib.hid hb5
    clear hb5
    go_wp2_with fail
    have hcall := err_no v v true ⟨fun _ => rfl, fun _ => rfl⟩ w5 (HET.out.keep HB5.out)
    refine hcall.mono ?_
    clear hcall
    rintro e w6 ⟨rfl, hb6⟩
    have HB6 := Lib.hid (keep HB5.out hb6)
    have HC6 := Lib.hid hb6
    clear hb6
    go_wp2_with fail
    have hcall := first_bad x z y A m cp a b c w6 (HL.out.keep HB6.out) hm v (.inl HFG.out)
    refine hcall.mono ?_
    clear hcall
    rintro e w7 ⟨rfl, hb7⟩
    have HB7 := Lib.hid (keep HB6.out hb7)
    have HC7 := Lib.hid hb7
    clear hb7
    go_wp2_with fail
    have hcall := err_no v v true ⟨fun _ => rfl, fun _ => rfl⟩ w7 (HET.out.keep HB7.out)
    refine hcall.mono ?_
    clear hcall
    rintro e w8 ⟨rfl, hb8⟩
    have HB8 := Lib.hid (keep HB7.out hb8)
    have HC8 := Lib.hid hb8
    clear hb8
    go_wp2_with fail
    have hcall := ints_walk none none 0 0 0 0 (fun _ => 0) (fun _ => 0) w8 (fun j hj => absurd hj (by omega)) (fun j hj => absurd hj (by omega)) (by omega) (by omega) true ⟨fun _ => ⟨rfl, fun _ _ => rfl⟩, fun _ => rfl⟩
    refine hcall.mono ?_
    clear hcall
    rintro e w9 ⟨rfl, k9, hw9⟩
    have HB9 : Hid (Below w.heap.size w w9) := by subst w9; exact below_drewN HB8.out k9
    clear hw9
    go_wp2_with fail
    go_ret
    exact ⟨rfl, HB9.out⟩

end Go.Proofs.YtminfghiejgieaaDoor


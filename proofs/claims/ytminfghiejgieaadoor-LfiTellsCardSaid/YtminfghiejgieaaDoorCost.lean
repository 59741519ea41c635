/- The walk of waywardenref1.CostOf: the cost of the link between two. -/
import Derived.Test.YtminfghiejgieaaDoorBellMath
import Derived.Test.YtminfghiejgieaaDoorSame
namespace Go.Proofs.YtminfghiejgieaaDoor
open Go.RowKit
set_option linter.unusedVariables false

theorem Lnk.drewN {w : World} {A : Option Addr} {n : Nat} {a b c : Nat → Int} (h : Lnk w A n a b c) (k : Nat) : Lnk (w.drewN k) A n a b c := h

/-- Link j is between u and v. -/
def Mt (a b : Nat → Int) (j : Nat) (u v : Int) : Prop := (a j = u ∧ b j = v) ∨ (a j = v ∧ b j = u)

instance (a b : Nat → Int) (j : Nat) (u v : Int) : Decidable (Mt a b j u v) := inferInstanceAs (Decidable (_ ∨ _))

/-- The first of m links between u and v. -/
def firstM (a b : Nat → Int) (u v : Int) : Nat → Option Nat
  | 0 => none
  | m + 1 => match firstM a b u v m with
    | some j => some j
    | none => if Mt a b m u v then some m else none

/-- The cost of the link between two; 0 of one to itself, 16: there is none. -/
def costV (m : Nat) (a b c : Nat → Int) (u v : Int) : Int := if u = v then 0 else match firstM a b u v m with
  | some j => c j
  | none => 16

section
variable {a b c : Nat → Int} {u v : Int}
theorem firstM_none : ∀ m, (∀ j, j < m → ¬ Mt a b j u v) → firstM a b u v m = none
  | 0, _ => rfl
  | m + 1, h => by
    unfold firstM
    rw [firstM_none m fun j hj => h j (by omega)]
    simp only [if_neg (h m (by omega))]
theorem firstM_at : ∀ m j, j < m → (∀ i, i < j → ¬ Mt a b i u v) → Mt a b j u v → firstM a b u v m = some j
  | 0, j, hj, _, _ => absurd hj (by omega)
  | m + 1, j, hj, h, hm => by
    unfold firstM
    rcases Nat.lt_or_ge j m with hlt | hge
    · rw [firstM_at m j hlt h hm]
    · obtain rfl : j = m := by omega
      rw [firstM_none j h]
      simp only [if_pos hm]
theorem firstM_some : ∀ m j, firstM a b u v m = some j → j < m ∧ Mt a b j u v
  | 0, j, h => by cases h
  | m + 1, j, h => by
    unfold firstM at h
    cases hf : firstM a b u v m with
    | some i =>
      rw [hf] at h
      injection h with h
      subst h
      obtain ⟨h1, h2⟩ := firstM_some m i hf
      exact ⟨by omega, h2⟩
    | none =>
      rw [hf] at h
      by_cases hm : Mt a b m u v
      · simp only [if_pos hm] at h
        injection h with h
        subst h
        exact ⟨by omega, hm⟩
      · simp only [if_neg hm] at h
        cases h
theorem costV_same (m : Nat) : costV m a b c u u = 0 := by unfold costV; rw [if_pos rfl]
theorem costV_none {m : Nat} (hne : u ≠ v) (h : ∀ j, j < m → ¬ Mt a b j u v) : costV m a b c u v = 16 := by unfold costV; rw [if_neg hne, firstM_none m h]
theorem costV_at {m j : Nat} (hne : u ≠ v) (hj : j < m) (h : ∀ i, i < j → ¬ Mt a b i u v) (hm : Mt a b j u v) : costV m a b c u v = c j := by unfold costV; rw [if_neg hne, firstM_at m j hj h hm]

theorem Mt.edge {n m : Nat} (hr : Right n m a b c) {j : Nat} (hj : j < m) {p q : Nat} : Mt a b j p q ↔ ((nA a j = p ∧ nA b j = q) ∨ (nA a j = q ∧ nA b j = p)) := by
  obtain ⟨-, -, -, -, -, ea, eb⟩ := right_nat hr hj
  unfold Mt
  rw [ea, eb]
  omega

/-- What a cost of right links is. -/
theorem costV_cases {n m : Nat} (hr : Right n m a b c) (p q : Nat) : (p = q ∧ costV m a b c p q = 0) ∨ (p ≠ q ∧ costV m a b c p q = 16 ∧ ∀ k, ¬ Edge m a b c p q k) ∨ (p ≠ q ∧ Edge m a b c p q (costV m a b c p q)) := by
  by_cases hpq : p = q
  · subst hpq
    exact .inl ⟨rfl, costV_same m⟩
  · have hne : (p : Int) ≠ q := by omega
    cases hf : firstM a b (p : Int) q m with
    | some j =>
      obtain ⟨hj, hm⟩ := firstM_some m j hf
      have e : costV m a b c p q = c j := by unfold costV; rw [if_neg hne, hf]
      rw [e]
      exact .inr (.inr ⟨hpq, j, hj, rfl, (Mt.edge hr hj).1 hm⟩)
    | none =>
      have e : costV m a b c p q = 16 := by unfold costV; rw [if_neg hne, hf]
      refine .inr (.inl ⟨hpq, e, fun k ⟨j, hj, _, hm⟩ => ?_⟩)
      by_cases hall : ∀ i, i < m → ¬ Mt a b i p q
      · exact hall j hj ((Mt.edge hr hj).2 hm)
      · have hex : ∃ i, i < m ∧ Mt a b i p q := Classical.byContradiction fun hno => hall fun i hi hmi => hno ⟨i, hi, hmi⟩
        obtain ⟨i, hi, hmi⟩ := hex
        have h2 : ∀ M, i < M → firstM a b (p : Int) q M ≠ none := by
          intro M
          induction M with
          | zero => intro h; omega
          | succ M ih =>
            intro h
            unfold firstM
            cases hfM : firstM a b (p : Int) q M with
            | some x => simp
            | none =>
              rcases Nat.lt_or_ge i M with hlt | hge
              · exact absurd hfM (ih hlt)
              · obtain rfl : i = M := by omega
                simp [hmi]
        exact h2 m hi hf

theorem costV_edge {n m : Nat} (hr : Right n m a b c) {p q : Nat} {k : Int} (h : Edge m a b c p q k) : costV m a b c p q = k := by
  rcases costV_cases hr p q with ⟨e, -⟩ | ⟨-, -, hno⟩ | ⟨-, he⟩
  · exact absurd e (h.ok hr).2.2.1
  · exact absurd h (hno k)
  · exact he.one hr h

theorem costV_ranged {n m : Nat} (hr : Right n m a b c) (p q : Nat) : 0 ≤ costV m a b c p q ∧ costV m a b c p q ≤ 16 := by
  rcases costV_cases hr p q with ⟨-, e⟩ | ⟨-, e, -⟩ | ⟨-, he⟩
  · omega
  · omega
  · have := he.ok hr
    omega
end

set_option maxRecDepth 100000 in
set_option maxHeartbeats 1000000 in
theorem costOf_walk (A : Option Addr) (m cp : Nat) (a b c : Nat → Int) (u v : Int) (w : World) (hl : Lnk w A m a b c) (hm : m ≤ 9223372036854775807) (k : Int) (hk : costV m a b c u v = k) :
    Calls Tryd.prog 55 #[.slice A m cp, .int .i64 u, .int .i64 v] w fun e w' => e = .returned (.int .i64 k) ∧ w' = w := by
  have HL := Lib.hid hl
  have HK := Lib.hid hk
  clear hl hk
  by_cases huv : u = v
  · subst huv
    obtain rfl : k = 0 := by rw [← HK.out, costV_same]
    go_enter Tryd.func55, Tryd.ntmps55
    go_wp2_with fail
    go_ret
    exact ⟨rfl, rfl⟩
  · have HUV := Lib.hid huv
    have hd : (u == v) = false := beq_false_of_ne huv
    have hd' : (v == u) = false := beq_false_of_ne fun e => huv e.symm
    clear huv
    go_enter Tryd.func55, Tryd.ntmps55
    go_wp2_with fail
    go_loopw [7] (fun i wr => ∃ r : Nat, r ≤ m ∧ i = .int .i64 r ∧ Hid (∀ j, j < r → ¬ Mt a b j u v) ∧ wr = w) (fun i _ => m - (intOf i).toNat)
    case atStart => exact ⟨0, by omega, rfl, Lib.hid fun j hj => absurd hj (by omega), rfl⟩
    case round =>
      obtain ⟨r, hr, rfl, hno, rfl⟩ := hrel
      have HN := hno
      clear hno
      by_cases hlt : r < m
      · have hlt' : (r : Int) < m := by omega
        obtain ⟨ad, rfl, hc0, hc1, hc2⟩ := HL.out.cells (Below.refl _ _) r hlt
        by_cases hmt : Mt a b r u v
        · have HE : Hid (k = c r) := by rw [← HK.out]; exact costV_at HUV.out hlt HN.out hmt
          rcases hmt with ⟨e1, e2⟩ | ⟨e1, e2⟩
          · rw [e1] at hc0
            rw [e2] at hc1
            clear e1 e2
            go_wp2_with fail
            go_ret
            exact ⟨ret_int HE.out.symm, rfl⟩
          · rw [e1] at hc0
            rw [e2] at hc1
            clear e1 e2
            go_wp2_with fail
            go_ret
            exact ⟨ret_int HE.out.symm, rfl⟩
        · have HN1 : Hid (∀ j, j < r + 1 → ¬ Mt a b j u v) := fun j hj => by
            rcases Nat.lt_or_ge j r with h | h
            · exact HN.out j h
            · obtain rfl : j = r := by omega
              exact hmt
          by_cases e1 : a r = u
          · have e2 : b r ≠ v := fun e => hmt (.inl ⟨e1, e⟩)
            rw [e1] at hc0
            have hd2 : (b r == v) = false := beq_false_of_ne e2
            clear e1 e2 hmt
            go_wp2_with fail
            go_roundw
            case rel => exact ⟨r + 1, by omega, by go_num, HN1, trivial⟩
            case measure => simp [intOf]; omega
          · have hd1 : (a r == u) = false := beq_false_of_ne e1
            by_cases e3 : a r = v
            · have e2 : b r ≠ u := fun e => hmt (.inr ⟨e3, e⟩)
              have hd2 : (b r == u) = false := beq_false_of_ne e2
              rw [e3] at hc0
              clear e1 e2 e3 hmt hd1
              go_wp2_with fail
              go_roundw
              case rel => exact ⟨r + 1, by omega, by go_num, HN1, trivial⟩
              case measure => simp [intOf]; omega
            · have hd2 : (a r == v) = false := beq_false_of_ne e3
              clear e1 e3 hmt
              go_wp2_with fail
              go_roundw
              case rel => exact ⟨r + 1, by omega, by go_num, HN1, trivial⟩
              case measure => simp [intOf]; omega
      · have er : r = m := by omega
        subst er
        obtain rfl : k = 16 := by rw [← HK.out, costV_none HUV.out HN.out]
        go_wp2_with fail
        go_ret
        exact ⟨rfl, rfl⟩

end Go.Proofs.YtminfghiejgieaaDoor

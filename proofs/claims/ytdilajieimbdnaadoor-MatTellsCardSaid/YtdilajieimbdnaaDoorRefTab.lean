/- The walk of the reference's TableFault. -/
import Derived.Test.YtdilajieimbdnaaDoorRefStar
namespace Go.Proofs.YtdilajieimbdnaaDoor
open Go.RowKit
set_option linter.unusedVariables false

set_option maxRecDepth 100000 in
set_option maxHeartbeats 1000000 in
theorem tableFault_size (A : Option Addr) (n c : Nat) (w : World) (hn : n < 1 ∨ 8 < n) :
    Calls Tryd.prog 44 #[.slice A n c] w fun e w' => e = .returned (.int .i64 3) ∧ w' = w := by
  rcases hn with hn | hn
  · obtain rfl : n = 0 := by omega
    go_enter Tryd.func44, Tryd.ntmps44
    go_wp2_with fail
    go_ret
    exact ⟨rfl, rfl⟩
  · have hn1 : (1 : Int) ≤ n := by omega
    have hn8 : (8 : Int) < n := by omega
    have hd1 : decide ((n : Int) < 1) = false := decide_eq_false (by omega)
    have hd8 : decide ((8 : Int) < n) = true := decide_eq_true (by omega)
    have he1 : decide (n < 1) = false := decide_eq_false (by omega)
    have he8 : decide (8 < n) = true := decide_eq_true (by omega)
    go_enter Tryd.func44, Tryd.ntmps44
    go_wp2_with fail
    go_ret
    exact ⟨rfl, rfl⟩

set_option maxRecDepth 100000 in
set_option maxHeartbeats 2000000 in
theorem tableFault_form (A : Option Addr) (n c i0 : Nat) (L : Nat → Nat) (f : Nat → Nat → Int) (w : World) (hm : Mat w A n L f) (h1 : 1 ≤ n) (h8 : n ≤ 8) (hi : i0 < n) (hL : ∀ i, i < i0 → L i = n) (hne : L i0 ≠ n) :
    Calls Tryd.prog 44 #[.slice A n c] w fun e w' => e = .returned (.int .i64 3) ∧ w' = w := by
  have h1' : (1 : Int) ≤ n := by omega
  have h8' : (n : Int) ≤ 8 := by omega
  have HM := Lib.hid hm
  have HL := Lib.hid hL
  have HN := Lib.hid hne
  clear hm hL hne
  go_enter Tryd.func44, Tryd.ntmps44
  go_wp2_with fail
  go_loopw [3] (fun i wr => ∃ r : Nat, r ≤ i0 ∧ i = .int .i64 r ∧ wr = w) (fun i _ => n - (intOf i).toNat)
  case atStart => exact ⟨0, by omega, rfl, rfl⟩
  case round =>
    obtain ⟨r, hr, rfl, hwr⟩ := hrel
    subst wr
    have hrn : (r : Int) < n := by omega
    obtain ⟨ad, Ai, ci, rfl, hlt, hc, -⟩ := HM.out r (by omega)
    by_cases hri : r < i0
    · rw [HL.out r hri] at hc
      have hdb2 : ((n : Int) != n) = false := by simp
      have hdb3 : (n != n) = false := by simp
      go_wp2_with fail
      go_roundw
      case rel => exact ⟨r + 1, by omega, by go_num, trivial⟩
      case measure => simp [intOf]; omega
    · obtain rfl : i0 = r := by omega
      obtain ⟨l, hl⟩ : ∃ l, L i0 = l := ⟨_, rfl⟩
      have hln := HN.out
      rw [hl] at hc hln
      have hdb2 : ((l : Int) != n) = true := by simp; omega
      have hdb3 : (l != n) = true := by simp; omega
      have hdb4 : ((l : Int) == n) = false := beq_false_of_ne (by omega)
      have hdb5 : (l == n) = false := beq_false_of_ne hln
      clear hl hln hr hri
      go_wp2_with fail
      go_ret
      exact ⟨rfl, rfl⟩

set_option maxRecDepth 100000 in
set_option maxHeartbeats 2000000 in
theorem tableFault_sq (A : Option Addr) (n c : Nat) (f : Nat → Nat → Int) (w : World) (hm : Mat w A n (fun _ => n) f) (h1 : 1 ≤ n) (h8 : n ≤ 8) (v : Int)
    (hv : (v = 0 ∧ Ranged n f) ∨ (v = 1 ∧ ∃ i k, i < n ∧ k < n ∧ (f i k < 0 ∨ 16 < f i k) ∧ (∀ p q, p < i → q < n → 0 ≤ f p q ∧ f p q ≤ 16) ∧ ∀ q, q < k → 0 ≤ f i q ∧ f i q ≤ 16)) :
    Calls Tryd.prog 44 #[.slice A n c] w fun e w' => e = .returned (.int .i64 v) ∧ w' = w := by
  have h1' : (1 : Int) ≤ n := by omega
  have h8' : (n : Int) ≤ 8 := by omega
  obtain ⟨ad, rfl⟩ := hm.some_ h1
  have HM := Lib.hid hm
  have HV := Lib.hid hv
  clear hm hv
  go_enter Tryd.func44, Tryd.ntmps44
  go_wp2_with fail
  go_loopw [3] (fun i wr => ∃ r : Nat, r ≤ n ∧ i = .int .i64 r ∧ wr = w) (fun i _ => n - (intOf i).toNat)
  case atStart => exact ⟨0, by omega, rfl, rfl⟩
  case round =>
    obtain ⟨r, hr, rfl, hwr⟩ := hrel
    subst wr
    by_cases hlt : r < n
    · have hrn : (r : Int) < n := by omega
      obtain ⟨Ai, ci, ⟨hc, -⟩, -, -⟩ := HM.out.sq h1 r hlt
      have hdb2 : ((n : Int) != n) = false := by simp
      have hdb3 : (n != n) = false := by simp
      go_wp2_with fail
      go_roundw
      case rel => exact ⟨r + 1, by omega, by go_num, trivial⟩
      case measure => simp [intOf]; omega
    · obtain rfl : n = r := by omega
      clear hlt hr
      rcases HV.out with ⟨rfl, hR⟩ | ⟨rfl, i0, k0, hi0, hk0, hbad, hup, hin⟩
      · have HR := Lib.hid hR
        clear hR HV
        go_wp2_with fail
        go_loopw [4] (fun i wr => ∃ r : Nat, r ≤ n ∧ i = .int .i64 r ∧ wr = w) (fun i _ => n - (intOf i).toNat)
        case atStart => exact ⟨0, by omega, rfl, rfl⟩
        case round =>
          obtain ⟨r, hr, rfl, hwr⟩ := hrel
          subst wr
          by_cases hlt : r < n
          · have hrn : (r : Int) < n := by omega
            go_wp2_with fail
            go_loopw [5] (fun i wr => ∃ q : Nat, q ≤ n ∧ i = .int .i64 q ∧ wr = w) (fun i _ => n - (intOf i).toNat)
            case atStart => exact ⟨0, by omega, rfl, rfl⟩
            case round =>
              obtain ⟨q, hq, rfl, hwr⟩ := hrel
              subst wr
              by_cases hqn : q < n
              · have hqn' : (q : Int) < n := by omega
                obtain ⟨Ai, ci, hc1, hc2⟩ := Mat.at_ h1 HM.out hlt hqn
                obtain ⟨u, hu⟩ : ∃ u, f r q = u := ⟨_, rfl⟩
                have hur := HR.out r q hlt hqn
                rw [hu] at hc2 hur
                obtain ⟨hu0, hu1⟩ := hur
                clear hu
                go_wp2_with fail
                refine (far_no u w hu0 hu1).mono ?_
                rintro e w7 ⟨rfl, h7⟩
                subst w7
                go_wp2_with fail
                go_roundw
                case rel => exact ⟨q + 1, by omega, by go_num, trivial⟩
                case measure => simp [intOf]; omega
              · obtain rfl : n = q := by omega
                clear hqn hq
                go_wp2_with fail
                go_roundw
                case rel => exact ⟨r + 1, by omega, by go_num, trivial⟩
                case measure => simp [intOf]; omega
          · obtain rfl : n = r := by omega
            clear hlt hr
            go_wp2_with fail
            go_ret
            exact ⟨rfl, rfl⟩
      · have HBAD := Lib.hid hbad
        have HUP := Lib.hid hup
        have HIN := Lib.hid hin
        clear hbad hup hin HV
        go_wp2_with fail
        go_loopw [4] (fun i wr => ∃ r : Nat, r ≤ i0 ∧ i = .int .i64 r ∧ wr = w) (fun i _ => n - (intOf i).toNat)
        case atStart => exact ⟨0, by omega, rfl, rfl⟩
        case round =>
          obtain ⟨r, hr, rfl, hwr⟩ := hrel
          subst wr
          have hrn : (r : Int) < n := by omega
          have hrn2 : r < n := by omega
          by_cases hri : r < i0
          · go_wp2_with fail
            go_loopw [5] (fun i wr => ∃ q : Nat, q ≤ n ∧ i = .int .i64 q ∧ wr = w) (fun i _ => n - (intOf i).toNat)
            case atStart => exact ⟨0, by omega, rfl, rfl⟩
            case round =>
              obtain ⟨q, hq, rfl, hwr⟩ := hrel
              subst wr
              by_cases hqn : q < n
              · have hqn' : (q : Int) < n := by omega
                obtain ⟨Ai, ci, hc1, hc2⟩ := Mat.at_ h1 HM.out hrn2 hqn
                obtain ⟨u, hu⟩ : ∃ u, f r q = u := ⟨_, rfl⟩
                have hur := HUP.out r q hri hqn
                rw [hu] at hc2 hur
                obtain ⟨hu0, hu1⟩ := hur
                clear hu
                go_wp2_with fail
                refine (far_no u w hu0 hu1).mono ?_
                rintro e w7 ⟨rfl, h7⟩
                subst w7
                go_wp2_with fail
                go_roundw
                case rel => exact ⟨q + 1, by omega, by go_num, trivial⟩
                case measure => simp [intOf]; omega
              · obtain rfl : n = q := by omega
                clear hqn hq
                go_wp2_with fail
                go_roundw
                case rel => exact ⟨r + 1, by omega, by go_num, trivial⟩
                case measure => simp [intOf]; omega
          · obtain rfl : i0 = r := by omega
            clear hri hr
            go_wp2_with fail
            go_loopw [5] (fun i wr => ∃ q : Nat, q ≤ k0 ∧ i = .int .i64 q ∧ wr = w) (fun i _ => n - (intOf i).toNat)
            case atStart => exact ⟨0, by omega, rfl, rfl⟩
            case round =>
              obtain ⟨q, hq, rfl, hwr⟩ := hrel
              subst wr
              have hqn : q < n := by omega
              have hqn' : (q : Int) < n := by omega
              obtain ⟨Ai, ci, hc1, hc2⟩ := Mat.at_ h1 HM.out hi0 hqn
              obtain ⟨u, hu⟩ : ∃ u, f i0 q = u := ⟨_, rfl⟩
              have HU := Lib.hid hu
              rw [hu] at hc2
              clear hu
              by_cases hqk : q < k0
              · have hur := HIN.out q hqk
                rw [HU.out] at hur
                obtain ⟨hu0, hu1⟩ := hur
                go_wp2_with fail
                refine (far_no u w hu0 hu1).mono ?_
                rintro e w7 ⟨rfl, h7⟩
                subst w7
                go_wp2_with fail
                go_roundw
                case rel => exact ⟨q + 1, by omega, by go_num, trivial⟩
                case measure => simp [intOf]; omega
              · obtain rfl : k0 = q := by omega
                have hub := HBAD.out
                rw [HU.out] at hub
                have HUB := Lib.hid hub
                clear hub hqk hq
                go_wp2_with fail
                refine (far_yes u w HUB.out).mono ?_
                rintro e w7 ⟨rfl, h7⟩
                subst w7
                go_wp2_with fail
                go_ret
                exact ⟨rfl, rfl⟩

theorem tableFault_bad (A : Option Addr) (n c : Nat) (L : Nat → Nat) (f : Nat → Nat → Int) (w : World) (hm : Mat w A n L f) (h : ¬ Good n L f) :
    Calls Tryd.prog 44 #[.slice A n c] w fun e w' => e = .returned (.int .i64 (fault n L f)) ∧ w' = w := by
  by_cases hs : Square n L
  · have hr : ¬ Ranged n f := fun hr => h ⟨hs, hr⟩
    have e : fault n L f = 1 := by unfold fault; rw [if_pos hs]
    rw [e]
    exact tableFault_sq A n c f w (hs.mat hm) hs.1 hs.2.1 1 (.inr ⟨rfl, unranged_at n f hr⟩)
  · have e : fault n L f = 3 := by unfold fault; rw [if_neg hs]
    rw [e]
    by_cases hn : n < 1 ∨ 8 < n
    · exact tableFault_size A n c w hn
    · rcases ragged_or n L with hL | ⟨i0, hi, hL, hne⟩
      · exact absurd ⟨by omega, by omega, hL⟩ hs
      · exact tableFault_form A n c i0 L f w hm (by omega) (by omega) hi hL hne

theorem tableFault_good (A : Option Addr) (n c : Nat) (L : Nat → Nat) (f : Nat → Nat → Int) (w : World) (hm : Mat w A n L f) (h : Good n L f) :
    Calls Tryd.prog 44 #[.slice A n c] w fun e w' => e = .returned (.int .i64 0) ∧ w' = w :=
  tableFault_sq A n c f w (h.1.mat hm) h.1.1 h.1.2.1 0 (.inl ⟨rfl, h.2⟩)

theorem fault_is (n : Nat) (L : Nat → Nat) (f : Nat → Nat → Int) : fault n L f = 1 ∨ fault n L f = 3 := by
  unfold fault
  split
  · exact .inl rfl
  · exact .inr rfl

end Go.Proofs.YtdilajieimbdnaaDoor

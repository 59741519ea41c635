/- Is a number there: the walks of slices.Index and slices.Contains. -/
import Derived.Test.YtfdldjlaedfllaaDoorPickMix
import Derived.Test.YtfdldjlaedfllaaDoorInts
namespace Go.Proofs.YtfdldjlaedfllaaDoor
open Go.RowKit
set_option linter.unusedVariables false

set_option maxRecDepth 100000 in
set_option maxHeartbeats 2000000 in
theorem index_walk (A : Option Addr) (n c : Nat) (f : Nat → Int) (v : Int) (w : World) (hV : Vec w A n f) (hn : n ≤ 9223372036854775807) :
    Calls Tryd.prog 41 #[.slice A n c, .int .i64 v] w fun e w' => ∃ r, e = .returned (.int .i64 r) ∧ (0 ≤ r ↔ ∃ j, j < n ∧ f j = v) ∧ w' = w := by
  have HV := Lib.hid hV
  clear hV
  go_enter Tryd.func41, Tryd.ntmps41
  go_wp2_with fail
  go_loopw [8] (fun q wr => ∃ i : Nat, i ≤ n ∧ q = .int .i64 i ∧ Hid (∀ j, j < i → f j ≠ v) ∧ wr = w) (fun q _ => n - (intOf q).toNat)
  case atStart => exact ⟨0, by omega, rfl, Lib.hid fun j hj => absurd hj (by omega), rfl⟩
  case round =>
    obtain ⟨i, hi, rfl, HNO, hwr⟩ := hrel
    subst hwr
    by_cases hlt : i < n
    · have hlt' : (i : Int) < n := by omega
      obtain ⟨ad, rfl, -, hc⟩ := HV.out i hlt
      obtain ⟨u, hu⟩ : ∃ u, f i = u := ⟨_, rfl⟩
      rw [hu] at hc
      by_cases huv : v = u
      · have e1 : (v == u) = true := by simp [huv]
        have HY : Hid (∃ j, j < n ∧ f j = v) := ⟨i, hlt, hu.trans huv.symm⟩
        clear hu huv
        go_wp2_with fail
        go_ret
        exact ⟨_, rfl, ⟨fun _ => HY.out, fun _ => by omega⟩, rfl⟩
      · have e1 : (v == u) = false := beq_false_of_ne huv
        have HN1 : Hid (∀ j, j < i + 1 → f j ≠ v) := fun j hj => by
          rcases Nat.lt_or_ge j i with h | h
          · exact HNO.out j h
          · obtain rfl : j = i := by omega
            rw [hu]
            exact fun h => huv h.symm
        clear hu huv
        go_wp2_with fail
        go_roundw
        case rel => exact ⟨i + 1, by omega, by go_num, HN1, trivial⟩
        case measure => simp [intOf]; omega
    · have ei : n = i := by omega
      subst ei
      go_wp2_with fail
      go_ret
      exact ⟨_, rfl, ⟨fun h => absurd h (by omega), fun ⟨j, hj, h⟩ => absurd h (HNO.out j hj)⟩, rfl⟩

set_option maxRecDepth 100000 in
set_option maxHeartbeats 2000000 in
theorem contains_walk (A : Option Addr) (n c : Nat) (f : Nat → Int) (v : Int) (w : World) (hV : Vec w A n f) (hn : n ≤ 9223372036854775807) :
    Calls Tryd.prog 30 #[.slice A n c, .int .i64 v] w fun e w' => ∃ b : Bool, e = .returned (.bool b) ∧ (b = true ↔ ∃ j, j < n ∧ f j = v) ∧ w' = w := by
  have hcall := index_walk A n c f v w hV hn
  have HC := Lib.hid hcall
  clear hcall hV
  go_enter Tryd.func30, Tryd.ntmps30
  go_wp2_with fail
  refine HC.out.mono ?_
  rintro e w1 ⟨r, rfl, hr, h1⟩
  subst w1
  have HRR := Lib.hid hr
  clear hr HC
  by_cases h0 : 0 ≤ r
  · have d1 : decide (0 ≤ r) = true := decide_eq_true h0
    have HT := Lib.hid (HRR.out.1 h0)
    go_wp2_with fail
    go_ret
    exact ⟨true, rfl, ⟨fun _ => HT.out, fun _ => rfl⟩, rfl⟩
  · have d1 : decide (0 ≤ r) = false := decide_eq_false h0
    have HT := Lib.hid h0
    clear h0
    go_wp2_with fail
    go_ret
    exact ⟨false, rfl, ⟨(fun h => by cases h), fun h => absurd (HRR.out.2 h) (by have := HT.out; omega)⟩, rfl⟩

end Go.Proofs.YtfdldjlaedfllaaDoor

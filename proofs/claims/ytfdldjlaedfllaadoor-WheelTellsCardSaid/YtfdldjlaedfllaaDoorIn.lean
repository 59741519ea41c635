/- The walk of waywardenref2.In: is a number in a list? -/
import Derived.Test.YtfdldjlaedfllaaDoorMem
namespace Go.Proofs.YtfdldjlaedfllaaDoor
open Go.RowKit
set_option linter.unusedVariables false

set_option maxRecDepth 100000 in
set_option maxHeartbeats 1000000 in
theorem in_walk (A : Option Addr) (n ca : Nat) (f : Nat → Int) (x : Int) (w : World) (hA : Vec w A n f) (hn : n ≤ 9223372036854775807) (b : Bool) (hb : b = true ↔ ∃ j, j < n ∧ f j = x) :
    Calls Tryd.prog 20 #[.slice A n ca, .int .i64 x] w fun e w' => e = .returned (.bool b) ∧ w' = w := by
  have HA := Lib.hid hA
  have HV := Lib.hid hb
  clear hA hb
  go_enter Tryd.func20, Tryd.ntmps20
  go_wp2_with fail
  go_loopw [5] (fun i wr => ∃ r : Nat, r ≤ n ∧ i = .int .i64 r ∧ Hid (∀ j, j < r → f j ≠ x) ∧ wr = w) (fun i _ => n - (intOf i).toNat)
  case atStart => exact ⟨0, by omega, rfl, Lib.hid (fun j hj => absurd hj (by omega)), rfl⟩
  case round =>
    obtain ⟨r, hr, rfl, hd, rfl⟩ := hrel
    have HD := hd
    clear hd
    by_cases hlt : r < n
    · have hlt' : (r : Int) < n := by omega
      obtain ⟨ad, rfl, hal, hac⟩ := HA.out r hlt
      by_cases he : f r = x
      · have hv : b = true := HV.out.2 ⟨r, hlt, he⟩
        subst hv
        rw [he] at hac
        clear he hal
        go_wp2_with fail
        go_ret
        exact ⟨rfl, rfl⟩
      · have hd : (f r == x) = false := beq_false_of_ne he
        have HD1 : Hid (∀ j, j < r + 1 → f j ≠ x) := fun j hj => by
          rcases Nat.lt_or_ge j r with h | h
          · exact HD.out j h
          · obtain rfl : j = r := by omega
            exact he
        clear he hal
        go_wp2_with fail
        go_roundw
        case rel => exact ⟨r + 1, by omega, by go_num, HD1, trivial⟩
        case measure => simp [intOf]; omega
    · have er : r = n := by omega
      subst er
      have hv : b = false := by
        cases b
        · rfl
        · obtain ⟨j, hj, e⟩ := HV.out.1 rfl
          exact absurd e (HD.out j hj)
      subst hv
      go_wp2_with fail
      go_ret
      exact ⟨rfl, rfl⟩

end Go.Proofs.YtfdldjlaedfllaaDoor

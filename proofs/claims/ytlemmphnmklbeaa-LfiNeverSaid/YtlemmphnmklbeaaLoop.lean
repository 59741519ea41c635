/- The walks of loop.Check, loop.Loops. -/
import Derived.Test.YtlemmphnmklbeaaLoopMath
import Derived.Test.YtlemmphnmklbeaaOwnV
import Derived.Test.YtlemmphnmklbeaaPick
import Derived.Deep.LoopGhost
namespace Go.Proofs.Ytlemmphnmklbeaa
open Go.RowKit
set_option linter.unusedVariables false

theorem okN_or (n : Nat) (s : Nat → Int) : OkN n s ∨ ∃ i, i < n ∧ (∀ j, j < i → -1 ≤ s j ∧ s j < n) ∧ (s i < -1 ∨ (n : Int) ≤ s i) := by
  rcases first_not (fun j => -1 ≤ s j ∧ s j < n) n with h | ⟨i, hi, hj, hb⟩
  · exact .inl h
  · exact .inr ⟨i, hi, hj, by omega⟩

set_option maxRecDepth 100000 in
set_option maxHeartbeats 1000000 in
theorem loopCheck_to (A : Option Addr) (n c : Nat) (s : Nat → Int) (w : World) (hA : Vec w A n s) (hn : n ≤ 9223372036854775807) (lim : Nat) (hlm : lim ≤ n) (hok : ∀ j, j < lim → -1 ≤ s j ∧ s j < n) (v : Value)
    (hv : (lim = n ∧ v = .nilIface) ∨ (lim < n ∧ (s lim < -1 ∨ (n : Int) ≤ s lim) ∧ v = errNo 1)) :
    Calls Try.prog 25 #[.slice A n c] w fun e w' => e = .returned v ∧ w' = w := by
  have HA := Lib.hid hA
  have HO := Lib.hid hok
  have HV := Lib.hid hv
  clear hA hok hv
  go_enter Try.func25, Try.ntmps25
  go_wp2_with fail
  go_loopw [7] (fun i wr => ∃ r : Nat, r ≤ lim ∧ i = .int .i64 r ∧ wr = w) (fun i _ => n - (intOf i).toNat)
  case atStart => exact ⟨0, by omega, rfl, rfl⟩
  case round =>
    obtain ⟨r, hr, rfl, rfl⟩ := hrel
    by_cases hlt : r < lim
    · have hlt' : (r : Int) < n := by omega
      obtain ⟨ad, rfl, hal, hac⟩ := HA.out r (by omega)
      have h0 := (HO.out r hlt).1
      have h1 := (HO.out r hlt).2
      have hd0 : decide (s r < -1) = false := decide_eq_false (by omega)
      have hd1 : decide ((n : Int) ≤ s r) = false := decide_eq_false (by omega)
      clear hal
      go_wp2_with fail
      go_roundw
      case rel => exact ⟨r + 1, by omega, by go_num, trivial⟩
      case measure => simp [intOf]; omega
    · obtain rfl : r = lim := by omega
      rcases HV.out with ⟨rfl, rfl⟩ | ⟨hlm', hbad, rfl⟩
      · go_wp2_with fail
        go_ret
        exact ⟨rfl, rfl⟩
      · have hlt' : (r : Int) < n := by omega
        obtain ⟨ad, rfl, hal, hac⟩ := HA.out r hlm'
        clear hal
        rcases (show s r < -1 ∨ (-1 ≤ s r ∧ (n : Int) ≤ s r) by omega) with hb | ⟨hb0, hb1⟩
        · clear hbad
          go_wp2_with fail
          go_ret
          exact ⟨rfl, rfl⟩
        · clear hbad
          go_wp2_with fail
          go_ret
          exact ⟨rfl, rfl⟩

theorem loopCheck_ok (A : Option Addr) (n c : Nat) (s : Nat → Int) (w : World) (hA : Vec w A n s) (hn : n ≤ 9223372036854775807) (hs : OkN n s) :
    Calls Try.prog 25 #[.slice A n c] w fun e w' => e = .returned .nilIface ∧ w' = w := loopCheck_to A n c s w hA hn n (Nat.le_refl _) hs _ (.inl ⟨rfl, rfl⟩)

theorem loopCheck_bad (A : Option Addr) (n c : Nat) (s : Nat → Int) (w : World) (hA : Vec w A n s) (hn : n ≤ 9223372036854775807) (hs : ¬ OkN n s) :
    Calls Try.prog 25 #[.slice A n c] w fun e w' => e = .returned (errNo 1) ∧ w' = w := by
  obtain ⟨i, hi, hj, hb⟩ := (okN_or n s).resolve_left hs
  exact loopCheck_to A n c s w hA hn i (by omega) hj _ (.inr ⟨hi, hb, rfl⟩)

set_option maxRecDepth 100000 in
set_option maxHeartbeats 1000000 in
theorem loops_bad (A : Option Addr) (n c : Nat) (s : Nat → Int) (w : World) (hA : Vec w A n s) (hn : n ≤ 9223372036854775807) (hs : ¬ OkN n s) :
    Calls Try.prog 15 #[.slice A n c] w fun e w' => e = .returned (.tuple #[.slice none 0 0, errNo 1]) ∧ w' = w := by
  have HA := Lib.hid hA
  have HS := Lib.hid hs
  clear hA hs
  go_enter Try.func15, Try.ntmps15
  go_wp2_with fail
  refine (loopCheck_bad A n c s w HA.out hn HS.out).mono ?_
  rintro e w2 ⟨rfl, rfl⟩
  go_wp2_with fail
  go_ret2
  exact ⟨rfl, rfl⟩

end Go.Proofs.Ytlemmphnmklbeaa

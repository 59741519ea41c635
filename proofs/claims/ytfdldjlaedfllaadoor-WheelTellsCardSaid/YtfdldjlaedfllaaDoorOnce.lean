/- The walk of waywardenref2.Once: is each number of a list there once? -/
import Derived.Test.YtfdldjlaedfllaaDoorIn
import Derived.Test.YtfdldjlaedfllaaDoorInts
namespace Go.Proofs.YtfdldjlaedfllaaDoor
open Go.RowKit
set_option linter.unusedVariables false

/-- No number twice. -/
def OnceV (n : Nat) (f : Nat → Int) : Prop := ∀ i, i < n → ∀ j, j < i → f j ≠ f i

theorem Vec.less {w : World} {A : Option Addr} {n m : Nat} {f : Nat → Int} (h : Vec w A n f) (hm : m ≤ n) : Vec w A m f := fun j hj => h j (by omega)

set_option maxRecDepth 100000 in
set_option maxHeartbeats 1000000 in
theorem once_walk (A : Option Addr) (n c : Nat) (f : Nat → Int) (w : World) (hA : Vec w A n f) (hn : n ≤ 9223372036854775807) (hc : n ≤ c) (b : Bool) (hb : b = true ↔ OnceV n f) :
    Calls Tryd.prog 16 #[.slice A n c] w fun e w' => e = .returned (.bool b) ∧ ∃ k, w' = w.drewN k := by
  have HA := Lib.hid hA
  have HV := Lib.hid hb
  clear hA hb
  go_enter Tryd.func16, Tryd.ntmps16
  go_wp2_with fail
  go_loopw [3] (fun i wr => ∃ r : Nat, r ≤ n ∧ i = .int .i64 r ∧ Hid (OnceV r f) ∧ ∃ k, wr = w.drewN k) (fun i _ => n - (intOf i).toNat)
  case atStart => exact ⟨0, by omega, rfl, Lib.hid (fun i hi => absurd hi (by omega)), 0, rfl⟩
  case round =>
    obtain ⟨r, hr, rfl, hd, k, rfl⟩ := hrel
    have HD := hd
    clear hd
    by_cases hlt : r < n
    · have hlt' : (r : Int) < n := by omega
      have hrc : (r : Int) ≤ c := by omega
      have hrc2 : r ≤ c := by omega
      obtain ⟨ad, rfl, hal, hac⟩ := HA.out r hlt
      clear hal
      by_cases hex : ∃ j, j < r ∧ f j = f r
      · have hv : b = false := by
          cases b
          · rfl
          · obtain ⟨j, hj, e⟩ := hex
            exact absurd e (HV.out.1 rfl r hlt j hj)
        subst hv
        have HX := Lib.hid hex
        clear hex
        go_wp2_with fail
        go_quiet ((go_at_call 20; exact quiet_adds ((in_walk (some ad) r c f (f r) _ ((HA.out.less (by omega)).drewN _) (by omega) true ⟨fun _ => HX.out, fun _ => rfl⟩).mono fun _ _ h => ⟨h.1, 0, h.2⟩)))
        go_wp2_with fail
        go_ret
        exact ⟨rfl, _, World.drewN_drewN _ _ _⟩
      · have HX := Lib.hid hex
        have HD1 : Hid (OnceV (r + 1) f) := fun i hi j hj => by
          rcases Nat.lt_or_ge i r with h | h
          · exact HD.out i h j hj
          · obtain rfl : i = r := by omega
            exact fun e => hex ⟨j, hj, e⟩
        clear hex
        go_wp2_with fail
        go_quiet ((go_at_call 20; exact quiet_adds ((in_walk (some ad) r c f (f r) _ ((HA.out.less (by omega)).drewN _) (by omega) false ⟨(fun h => by cases h), fun h => absurd h HX.out⟩).mono fun _ _ h => ⟨h.1, 0, h.2⟩)))
        go_wp2_with fail
        go_roundw
        case rel => exact ⟨r + 1, by omega, by go_num, HD1, _, rfl⟩
        case measure => simp [intOf]; omega
    · have er : r = n := by omega
      subst er
      have hv : b = true := HV.out.2 HD.out
      subst hv
      go_wp2_with fail
      go_ret
      exact ⟨rfl, k, rfl⟩

end Go.Proofs.YtfdldjlaedfllaaDoor

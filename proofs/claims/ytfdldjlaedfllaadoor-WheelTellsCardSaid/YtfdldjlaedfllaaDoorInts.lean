/- The walk of waywardensame.Ints: are two lists the same? -/
import Derived.Test.YtfdldjlaedfllaaDoorTouch
import Derived.Deep.QuietTactic
import Derived.BigQuiet
namespace Go.Proofs.YtfdldjlaedfllaaDoor
open Go.RowKit
set_option linter.unusedVariables false

/-- A quiet call behind other draws. -/
theorem quiet_adds {P : Program} {f : FuncId} {args : Array Value} {w : World} {a n : Nat} {v : Value}
    (h : Calls P f args (w.drewN (a + n)) fun e w' => e = .returned v ∧ ∃ m, w' = (w.drewN (a + n)).drewN m) :
    Calls P f args (w.drewN (a + n)) fun e w'' => e = .returned v ∧ ∃ m, w'' = w.drewN (a + m) :=
  h.mono fun _ _ ⟨he, m, hm⟩ => ⟨he, n + m, by rw [hm, World.drewN_drewN, Nat.add_assoc]⟩

/-- The same numbers. -/
def SameV (n m : Nat) (f g : Nat → Int) : Prop := n = m ∧ ∀ i, i < n → f i = g i
/-- The same rows. -/
def SameM (n m : Nat) (L M : Nat → Nat) (f g : Nat → Nat → Int) : Prop := n = m ∧ ∀ i, i < n → SameV (L i) (M i) (f i) (g i)

set_option maxRecDepth 100000 in
set_option maxHeartbeats 1000000 in
theorem ints_walk (A B : Option Addr) (n m ca cb : Nat) (f g : Nat → Int) (w : World) (hA : Vec w A n f) (hB : Vec w B m g) (hn : n ≤ 9223372036854775807) (hm : m ≤ 9223372036854775807) (b : Bool) (hb : b = true ↔ SameV n m f g) :
    Calls Tryd.prog 13 #[.slice A n ca, .slice B m cb] w fun e w' => e = .returned (.bool b) ∧ ∃ k, w' = w.drewN k := by
  have HA := Lib.hid hA
  have HB := Lib.hid hB
  have HV := Lib.hid hb
  clear hA hB hb
  by_cases hnm : n = m
  · subst hnm
    go_enter Tryd.func13, Tryd.ntmps13
    go_wp2_with fail
    go_loopw [5] (fun i wr => ∃ r : Nat, r ≤ n ∧ i = .int .i64 r ∧ Hid (∀ j, j < r → f j = g j) ∧ ∃ k, wr = w.drewN k) (fun i _ => n - (intOf i).toNat)
    case atStart => exact ⟨0, by omega, rfl, Lib.hid (fun j hj => absurd hj (by omega)), 0, rfl⟩
    case round =>
      obtain ⟨r, hr, rfl, hd, k, rfl⟩ := hrel
      have HD := hd
      clear hd
      by_cases hlt : r < n
      · have hlt' : (r : Int) < n := by omega
        obtain ⟨ad, rfl, hal, hac⟩ := HA.out r hlt
        obtain ⟨bd, rfl, hbl, hbc⟩ := HB.out r hlt
        by_cases he : f r = g r
        · have HE := Lib.hid he
          clear he
          rw [HE.out] at hac
          go_wp2_with fail
          go_quiet (fail)
          go_wp2_with fail
          go_roundw
          case rel => exact ⟨r + 1, by omega, by go_num, Lib.hid (fun j hj => by
              rcases Nat.lt_or_ge j r with h | h
              · exact HD.out j h
              · obtain rfl : j = r := by omega
                exact HE.out), _, rfl⟩
          case measure => simp [intOf]; omega
        · have hd : decide (f r = g r) = false := decide_eq_false he
          have hv : b = false := by
            cases b
            · rfl
            · exact absurd ((HV.out.1 rfl).2 r hlt) he
          subst hv
          go_wp2_with fail
          go_quiet (fail)
          go_wp2_with fail
          go_ret
          exact ⟨rfl, _, World.drewN_drewN _ _ _⟩
      · have er : r = n := by omega
        subst er
        have hv : b = true := HV.out.2 ⟨rfl, HD.out⟩
        subst hv
        go_wp2_with fail
        go_ret
        exact ⟨rfl, k, rfl⟩
  · have hv : b = false := by
      cases b
      · rfl
      · exact absurd (HV.out.1 rfl).1 hnm
    subst hv
    have hd : decide ((n : Int) = (m : Int)) = false := by
      apply decide_eq_false
      omega
    go_enter Tryd.func13, Tryd.ntmps13
    go_wp2_with fail
    go_ret
    exact ⟨rfl, 0, rfl⟩

theorem Vec.drewN {w : World} {A : Option Addr} {n : Nat} {f : Nat → Int} (h : Vec w A n f) (k : Nat) : Vec (w.drewN k) A n f := h

end Go.Proofs.YtfdldjlaedfllaaDoor

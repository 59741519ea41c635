/- The walks of loop.Deep and of the reference's Steps, NextFault. -/
import Derived.Test.YtjbilhpdnmgljaaDoorLoop
namespace Go.Proofs.YtjbilhpdnmgljaaDoor
open Go.RowKit
set_option linter.unusedVariables false

set_option maxRecDepth 100000 in
set_option maxHeartbeats 1000000 in
theorem deep_to (A : Option Addr) (n c i : Nat) (x : Int) (hx : x = i) (s : Nat → Int) (w : World) (hA : Vec w A n s) (hn : n ≤ 17592186044416) (hs : OkN n s) (hi : i < n) (d : Nat) (hd : ∀ j, j < d → 0 ≤ itN s i j) (R : Value)
    (hR : (d ≤ n ∧ itN s i d < 0 ∧ R = .tuple #[.int .i64 d, .nilIface]) ∨ (d = n + 1 ∧ R = .tuple #[.int .i64 0, errNo 2])) :
    Calls Tryd.prog 46 #[.slice A n c, .int .i64 x] w fun e w' => e = .returned R ∧ w' = w := by
  subst hx
  have HA := Lib.hid hA
  have HS := Lib.hid hs
  have HD := Lib.hid hd
  have HR := Lib.hid hR
  have hck := loopCheck_ok A n c s w hA (by omega) hs
  have hi' : (i : Int) < n := by omega
  clear hA hs hd hR
  go_enter Tryd.func46, Tryd.ntmps46
  go_wp2_with fail
  refine hck.mono ?_
  clear hck
  rintro e w2 ⟨rfl, hw2⟩
  subst w2
  go_wp2_with fail
  go_loopw [1, 7] (fun v1 v7 wr => ∃ (k : Nat) (z : Int), k ≤ d ∧ k ≤ n ∧ v7 = .int .i64 k ∧ v1 = .int .i64 z ∧ Hid (itN s i k = z) ∧ wr = w) (fun _ v7 _ => n + 1 - (intOf v7).toNat)
  case atStart => exact ⟨0, i, by omega, by omega, rfl, rfl, Lib.hid (itN_zero s i), rfl⟩
  case round =>
    obtain ⟨k, z, hkd, hkn, rfl, rfl, hz, rfl⟩ := hrel
    have HZ := hz
    clear hz
    have hzn : z < n := by have := (itN_lt HS.out hi k).2; have := HZ.out; omega
    by_cases hlt : k < d
    · have hz0 : 0 ≤ z := by have := HD.out k hlt; have := HZ.out; omega
      obtain ⟨a, rfl⟩ : ∃ a : Nat, z = a := ⟨z.toNat, by omega⟩
      have han : a < n := by omega
      by_cases hkn2 : k = n
      · have hR2 : R = .tuple #[.int .i64 0, errNo 2] := by
          rcases HR.out with ⟨h1, _, _⟩ | ⟨_, h⟩
          · omega
          · exact h
        subst hR2
        subst hkn2
        clear hzn
        go_wp2_with fail
        go_ret2
        exact ⟨rfl, rfl⟩
      · have HZ2 := Lib.hid (itN_succ HZ.out)
        have hkn3 : k + 1 ≤ n := by omega
        have hkI : (k : Int) + 1 ≤ n := by omega
        have hdn : decide ((n : Int) < (k : Int) + 1) = false := decide_eq_false (by omega)
        obtain ⟨ad, rfl, hal, hac⟩ := HA.out a han
        clear hal hkn2
        go_wp2_with fail
        go_roundw
        case rel => exact ⟨k + 1, s a, by omega, by omega, by go_num, rfl, HZ2, trivial⟩
        case measure => simp [intOf]; omega
    · obtain rfl : k = d := by omega
      rcases HR.out with ⟨h1, h2, rfl⟩ | ⟨h1, _⟩
      · have hz0 : decide (0 ≤ z) = false := decide_eq_false (by have := HZ.out; omega)
        clear h2
        go_wp2_with fail
        go_ret2
        exact ⟨rfl, rfl⟩
      · omega

set_option maxRecDepth 100000 in
set_option maxHeartbeats 1000000 in
theorem deep_bad (A : Option Addr) (n c : Nat) (x : Int) (s : Nat → Int) (w : World) (hA : Vec w A n s) (hn : n ≤ 17592186044416) (h : ¬ OkN n s ∨ (OkN n s ∧ (x < 0 ∨ (n : Int) ≤ x))) :
    Calls Tryd.prog 46 #[.slice A n c, .int .i64 x] w fun e w' => e = .returned (.tuple #[.int .i64 0, errNo 1]) ∧ w' = w := by
  rcases h with h | ⟨h, hx⟩
  · have hck := loopCheck_bad A n c s w hA (by omega) h
    clear hA h
    go_enter Tryd.func46, Tryd.ntmps46
    go_wp2_with fail
    refine hck.mono ?_
    clear hck
    rintro e w2 ⟨rfl, hw2⟩
    subst w2
    go_wp2_with fail
    go_ret2
    exact ⟨rfl, rfl⟩
  · have hck := loopCheck_ok A n c s w hA (by omega) h
    clear hA h
    rcases (show x < 0 ∨ (0 ≤ x ∧ (n : Int) ≤ x) by omega) with hx | ⟨hx0, hx1⟩
    · go_enter Tryd.func46, Tryd.ntmps46
      go_wp2_with fail
      refine hck.mono ?_
      clear hck
      rintro e w2 ⟨rfl, hw2⟩
      subst w2
      go_wp2_with fail
      go_ret2
      exact ⟨rfl, rfl⟩
    · clear hx
      go_enter Tryd.func46, Tryd.ntmps46
      go_wp2_with fail
      refine hck.mono ?_
      clear hck
      rintro e w2 ⟨rfl, hw2⟩
      subst w2
      go_wp2_with fail
      go_ret2
      exact ⟨rfl, rfl⟩

set_option maxRecDepth 100000 in
set_option maxHeartbeats 1000000 in
theorem steps_walk (A : Option Addr) (n c i m : Nat) (x y : Int) (hx : x = i) (hy : y = m) (s : Nat → Int) (w : World) (hA : Vec w A n s) (hm : m ≤ 17592186044416) (hn : n ≤ 17592186044416) (hs : OkN n s) (hi : i < n) :
    Calls Tryd.prog 45 #[.slice A n c, .int .i64 x, .int .i64 y] w fun e w' => e = .returned (.int .i64 (itN s i m)) ∧ w' = w := by
  subst hx hy
  have HA := Lib.hid hA
  have HS := Lib.hid hs
  clear hA hs
  go_enter Tryd.func45, Tryd.ntmps45
  go_wp2_with fail
  go_loopw [1, 7] (fun v1 v7 wr => ∃ (k : Nat) (z : Int), k ≤ m ∧ v7 = .int .i64 k ∧ v1 = .int .i64 z ∧ Hid (itN s i k = z) ∧ wr = w) (fun _ v7 _ => m - (intOf v7).toNat)
  case atStart => exact ⟨0, i, by omega, rfl, rfl, Lib.hid (itN_zero s i), rfl⟩
  case round =>
    obtain ⟨k, z, hkm, rfl, rfl, hz, rfl⟩ := hrel
    have HZ := hz
    clear hz
    have hzn : z < n := by have := (itN_lt HS.out hi k).2; have := HZ.out; omega
    by_cases hlt : k < m
    · have hlt' : (k : Int) < m := by omega
      by_cases hz0 : z < 0
      · have hd : decide (0 ≤ z) = false := decide_eq_false (by omega)
        have HE : Hid (z = itN s i m) := by
          have h := itN_neg (s := s) (i := i) (k := k) (by rw [HZ.out]; exact hz0) (m - k)
          rw [show k + (m - k) = m by omega] at h
          exact Lib.hid (by rw [h]; exact HZ.out.symm)
        go_wp2_with fail
        go_ret
        exact ⟨ret_int HE.out, rfl⟩
      · obtain ⟨a, rfl⟩ : ∃ a : Nat, z = a := ⟨z.toNat, by omega⟩
        have han : a < n := by omega
        have HZ2 := Lib.hid (itN_succ HZ.out)
        obtain ⟨ad, rfl, hal, hac⟩ := HA.out a han
        clear hal hz0
        go_wp2_with fail
        go_roundw
        case rel => exact ⟨k + 1, s a, by omega, by go_num, rfl, HZ2, trivial⟩
        case measure => simp [intOf]; omega
    · obtain rfl : k = m := by omega
      go_wp2_with fail
      go_ret
      exact ⟨ret_int HZ.out.symm, rfl⟩

set_option maxRecDepth 100000 in
set_option maxHeartbeats 1000000 in
theorem nextFault_to (A : Option Addr) (n c : Nat) (s : Nat → Int) (w : World) (hA : Vec w A n s) (hn : n ≤ 17592186044416) (lim : Nat) (hlm : lim ≤ n) (hok : ∀ j, j < lim → -1 ≤ s j ∧ s j < n) (v : Int)
    (hv : (lim = n ∧ v = 0) ∨ (lim < n ∧ (s lim < -1 ∨ (n : Int) ≤ s lim) ∧ v = 1)) :
    Calls Tryd.prog 41 #[.slice A n c] w fun e w' => e = .returned (.int .i64 v) ∧ w' = w := by
  have HA := Lib.hid hA
  have HO := Lib.hid hok
  have HV := Lib.hid hv
  clear hA hok hv
  go_enter Tryd.func41, Tryd.ntmps41
  go_wp2_with fail
  go_loopw [3] (fun i wr => ∃ r : Nat, r ≤ lim ∧ i = .int .i64 r ∧ wr = w) (fun i _ => n - (intOf i).toNat)
  case atStart => exact ⟨0, by omega, rfl, rfl⟩
  case round =>
    obtain ⟨r, hr, rfl, rfl⟩ := hrel
    by_cases hlt : r < lim
    · have hlt' : (r : Int) < n := by omega
      obtain ⟨ad, rfl, hal, hac⟩ := HA.out r (by omega)
      have h0 := (HO.out r hlt).1
      have h1 := (HO.out r hlt).2
      have hd0 : decide (s r < -1) = false := decide_eq_false (by omega)
      have hd1 : decide ((n : Int) ≤ s r) = false := decide_eq_false (by omega)
      clear hal
      go_wp2_with fail
      go_roundw
      case rel => exact ⟨r + 1, by omega, by go_num, trivial⟩
      case measure => simp [intOf]; omega
    · obtain rfl : r = lim := by omega
      rcases HV.out with ⟨rfl, rfl⟩ | ⟨hlm', hbad, rfl⟩
      · go_wp2_with fail
        go_ret
        exact ⟨rfl, rfl⟩
      · have hlt' : (r : Int) < n := by omega
        obtain ⟨ad, rfl, hal, hac⟩ := HA.out r hlm'
        clear hal
        rcases (show s r < -1 ∨ (-1 ≤ s r ∧ (n : Int) ≤ s r) by omega) with hb | ⟨hb0, hb1⟩
        · clear hbad
          go_wp2_with fail
          go_ret
          exact ⟨rfl, rfl⟩
        · clear hbad
          go_wp2_with fail
          go_ret
          exact ⟨rfl, rfl⟩

theorem nextFault_walk (A : Option Addr) (n c : Nat) (s : Nat → Int) (w : World) (hA : Vec w A n s) (hn : n ≤ 17592186044416) (v : Int) (h : (OkN n s ∧ v = 0) ∨ (¬ OkN n s ∧ v = 1)) :
    Calls Tryd.prog 41 #[.slice A n c] w fun e w' => e = .returned (.int .i64 v) ∧ w' = w := by
  rcases h with ⟨h, rfl⟩ | ⟨h, rfl⟩
  · exact nextFault_to A n c s w hA hn n (Nat.le_refl _) h _ (.inl ⟨rfl, rfl⟩)
  · obtain ⟨i, hi, hj, hb⟩ := (okN_or n s).resolve_left h
    exact nextFault_to A n c s w hA hn i (by omega) hj _ (.inr ⟨hi, hb, rfl⟩)

end Go.Proofs.YtjbilhpdnmgljaaDoor

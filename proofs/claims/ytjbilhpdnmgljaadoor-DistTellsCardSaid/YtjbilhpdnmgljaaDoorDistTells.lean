/- DistTells: the walk. -/
import Derived.Test.YtjbilhpdnmgljaaDoorDist
import Derived.Test.YtjbilhpdnmgljaaDoorErr
namespace Go.Proofs.YtjbilhpdnmgljaaDoor
open Go.RowKit
set_option linter.unusedVariables false

theorem far_no (d : Int) (w : World) (h0 : 0 ≤ d) (h1 : d ≤ 16) : Calls Tryd.prog 11 #[.int .i64 d] w fun e w' => e = .returned (.bool false) ∧ w' = w := by
  have hd : decide (d < 0) = false := decide_eq_false (by omega)
  have hd' : decide (16 < d) = false := decide_eq_false (by omega)
  go_enter Tryd.func11, Tryd.ntmps11
  go_wp2_with fail
  go_ret
  exact ⟨rfl, rfl⟩

theorem far_yes (d : Int) (w : World) (h : d < 0 ∨ 16 < d) : Calls Tryd.prog 11 #[.int .i64 d] w fun e w' => e = .returned (.bool true) ∧ w' = w := by
  rcases (show d < 0 ∨ (0 ≤ d ∧ 16 < d) by omega) with h | ⟨h0, h⟩
  · have hd : decide (d < 0) = true := decide_eq_true h
    go_enter Tryd.func11, Tryd.ntmps11
    go_wp2_with fail
    go_ret
    exact ⟨rfl, rfl⟩
  · have hd : decide (d < 0) = false := decide_eq_false (by omega)
    have hd' : decide (16 < d) = true := decide_eq_true h
    go_enter Tryd.func11, Tryd.ntmps11
    go_wp2_with fail
    go_ret
    exact ⟨rfl, rfl⟩

attribute [local go_sem high] run_min_pair

theorem plus_walk (a b : Int) (w : World) (ha : 0 ≤ a) (ha' : a ≤ 16) (hb : 0 ≤ b) (hb' : b ≤ 16) : Calls Tryd.prog 14 #[.int .i64 a, .int .i64 b] w fun e w' => e = .returned (.int .i64 (min (a + b) 16)) ∧ w' = w := by
  go_enter Tryd.func14, Tryd.ntmps14
  go_wp2_with fail
  go_ret
  exact ⟨rfl, rfl⟩

set_option maxRecDepth 100000 in
set_option maxHeartbeats 2000000 in
theorem distTells_walk (a b : Int) (w : World) (hg : ErrT w) :
    Calls Tryd.prog 3 #[.int .i64 a, .int .i64 b] w fun e w' => e = .returned (.bool true) ∧ Below w.heap.size w w' := by
  have HG := Lib.hid hg
  clear hg
  by_cases ha : 0 ≤ a ∧ a ≤ 16
  · obtain ⟨ha0, ha1⟩ := ha
    by_cases hb : 0 ≤ b ∧ b ≤ 16
    · obtain ⟨hb0, hb1⟩ := hb
      go_enter Tryd.func3, Tryd.ntmps3
      go_wp2_with fail
      refine (far_no a w ha0 ha1).mono ?_
      rintro e w1 ⟨rfl, rfl⟩
      go_wp2_with fail
      refine (distCheck_ok a _ ha0 ha1).mono ?_
      rintro e w1 ⟨rfl, rfl⟩
      go_wp2_with fail
      refine (err_nil 0 true ⟨fun _ => rfl, fun _ => rfl⟩ _).mono ?_
      rintro e w2 ⟨rfl, hb2⟩
      have HB2 := Lib.hid hb2
      clear hb2
      go_wp2_with fail
      refine (far_no b _ hb0 hb1).mono ?_
      rintro e w3 ⟨rfl, rfl⟩
      go_wp2_with fail
      refine (plus_walk a b _ ha0 ha1 hb0 hb1).mono ?_
      rintro e w3 ⟨rfl, rfl⟩
      go_wp2_with fail
      refine (distAdd_ok a b _ ha0 ha1 hb0 hb1).mono ?_
      rintro e w4 ⟨rfl, hb4⟩
      have HB4 := Lib.hid (keep HB2.out hb4)
      clear hb4 HB2
      go_wp2_with fail
      refine (err_nil 0 true ⟨fun _ => rfl, fun _ => rfl⟩ _).mono ?_
      rintro e w5 ⟨rfl, hb5⟩
      have HB5 := Lib.hid (keep HB4.out hb5)
      clear hb5 HB4
      go_wp2_with fail
      refine (distLess_ok a b _ ha0 ha1 hb0 hb1).mono ?_
      rintro e w6 ⟨rfl, hb6⟩
      have HB6 := Lib.hid (keep HB5.out hb6)
      clear hb6 HB5
      go_wp2_with fail
      refine (err_nil 0 true ⟨fun _ => rfl, fun _ => rfl⟩ _).mono ?_
      rintro e w7 ⟨rfl, hb7⟩
      have HB7 := Lib.hid (keep HB6.out hb7)
      clear hb7 HB6
      go_wp2_with fail
      go_ret
      exact ⟨rfl, HB7.out⟩
    · have hbb : b < 0 ∨ 16 < b := by omega
      have HO : Hid (OutOf a b) := .inr ⟨ha0, ha1, hbb⟩
      go_enter Tryd.func3, Tryd.ntmps3
      go_wp2_with fail
      refine (far_no a w ha0 ha1).mono ?_
      rintro e w1 ⟨rfl, rfl⟩
      go_wp2_with fail
      refine (distCheck_ok a _ ha0 ha1).mono ?_
      rintro e w1 ⟨rfl, rfl⟩
      go_wp2_with fail
      refine (err_nil 0 true ⟨fun _ => rfl, fun _ => rfl⟩ _).mono ?_
      rintro e w2 ⟨rfl, hb2⟩
      have HB2 := Lib.hid hb2
      clear hb2
      go_wp2_with fail
      refine (far_yes b _ hbb).mono ?_
      rintro e w3 ⟨rfl, rfl⟩
      go_wp2_with fail
      refine (distAdd_bad a b _ HO.out).mono ?_
      rintro e w4 ⟨rfl, hb4⟩
      have HB4 := Lib.hid (keep HB2.out hb4)
      clear hb4 HB2
      go_wp2_with fail
      refine (err_no 1 1 true ⟨fun _ => rfl, fun _ => rfl⟩ _ (HG.out.keep HB4.out)).mono ?_
      rintro e w5 ⟨rfl, hb5⟩
      have HB5 := Lib.hid (keep HB4.out hb5)
      clear hb5 HB4
      go_wp2_with fail
      refine (distLess_bad a b _ HO.out).mono ?_
      rintro e w6 ⟨rfl, hb6⟩
      have HB6 := Lib.hid (keep HB5.out hb6)
      clear hb6 HB5
      go_wp2_with fail
      refine (err_no 1 1 true ⟨fun _ => rfl, fun _ => rfl⟩ _ (HG.out.keep HB6.out)).mono ?_
      rintro e w7 ⟨rfl, hb7⟩
      have HB7 := Lib.hid (keep HB6.out hb7)
      clear hb7 HB6
      go_wp2_with fail
      go_ret
      exact ⟨rfl, HB7.out⟩
  · have haa : a < 0 ∨ 16 < a := by omega
    have HO : Hid (OutOf a b) := .inl haa
    go_enter Tryd.func3, Tryd.ntmps3
    go_wp2_with fail
    refine (far_yes a w haa).mono ?_
    rintro e w1 ⟨rfl, rfl⟩
    go_wp2_with fail
    refine (distCheck_bad a _ haa).mono ?_
    rintro e w1 ⟨rfl, rfl⟩
    go_wp2_with fail
    refine (err_no 1 1 true ⟨fun _ => rfl, fun _ => rfl⟩ _ HG.out).mono ?_
    rintro e w2 ⟨rfl, hb2⟩
    have HB2 := Lib.hid hb2
    clear hb2
    go_wp2_with fail
    by_cases hb : 0 ≤ b ∧ b ≤ 16
    · obtain ⟨hb0, hb1⟩ := hb
      refine (far_no b _ hb0 hb1).mono ?_
      rintro e w3 ⟨rfl, rfl⟩
      go_wp2_with fail
      refine (distAdd_bad a b _ HO.out).mono ?_
      rintro e w4 ⟨rfl, hb4⟩
      have HB4 := Lib.hid (keep HB2.out hb4)
      clear hb4 HB2
      go_wp2_with fail
      refine (err_no 1 1 true ⟨fun _ => rfl, fun _ => rfl⟩ _ (HG.out.keep HB4.out)).mono ?_
      rintro e w5 ⟨rfl, hb5⟩
      have HB5 := Lib.hid (keep HB4.out hb5)
      clear hb5 HB4
      go_wp2_with fail
      refine (distLess_bad a b _ HO.out).mono ?_
      rintro e w6 ⟨rfl, hb6⟩
      have HB6 := Lib.hid (keep HB5.out hb6)
      clear hb6 HB5
      go_wp2_with fail
      refine (err_no 1 1 true ⟨fun _ => rfl, fun _ => rfl⟩ _ (HG.out.keep HB6.out)).mono ?_
      rintro e w7 ⟨rfl, hb7⟩
      have HB7 := Lib.hid (keep HB6.out hb7)
      clear hb7 HB6
      go_wp2_with fail
      go_ret
      exact ⟨rfl, HB7.out⟩
    · refine (far_yes b _ (by omega)).mono ?_
      rintro e w3 ⟨rfl, rfl⟩
      go_wp2_with fail
      refine (distAdd_bad a b _ HO.out).mono ?_
      rintro e w4 ⟨rfl, hb4⟩
      have HB4 := Lib.hid (keep HB2.out hb4)
      clear hb4 HB2
      go_wp2_with fail
      refine (err_no 1 1 true ⟨fun _ => rfl, fun _ => rfl⟩ _ (HG.out.keep HB4.out)).mono ?_
      rintro e w5 ⟨rfl, hb5⟩
      have HB5 := Lib.hid (keep HB4.out hb5)
      clear hb5 HB4
      go_wp2_with fail
      refine (distLess_bad a b _ HO.out).mono ?_
      rintro e w6 ⟨rfl, hb6⟩
      have HB6 := Lib.hid (keep HB5.out hb6)
      clear hb6 HB5
      go_wp2_with fail
      refine (err_no 1 1 true ⟨fun _ => rfl, fun _ => rfl⟩ _ (HG.out.keep HB6.out)).mono ?_
      rintro e w7 ⟨rfl, hb7⟩
      have HB7 := Lib.hid (keep HB6.out hb7)
      clear hb7 HB6
      go_wp2_with fail
      go_ret
      exact ⟨rfl, HB7.out⟩

end Go.Proofs.YtjbilhpdnmgljaaDoor

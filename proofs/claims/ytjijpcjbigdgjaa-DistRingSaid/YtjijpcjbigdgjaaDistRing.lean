/- DistRing: distances are a semiring: which two are added first, or are the lesser, is no matter; what is added to the lesser one is the lesser one of both sums; to add is never less. For all integers; no condition. -/
import Derived.Test.YtjijpcjbigdgjaaDist
namespace Go.Proofs.Ytjijpcjbigdgjaa
open Go.RowKit
set_option linter.unusedVariables false

theorem refFar_yes (d : Int) (w : World) (h : d < 0 ∨ 16 < d) :
    Calls Try.prog 17 #[.int .i64 d] w fun e w' => e = .returned (.bool true) ∧ w = w' := by
  rcases h with h | h
  · go_enter Try.func17, Try.ntmps17
    go_wp2
    go_ret
    exact ⟨rfl, rfl⟩
  · have h0 : ¬ d < 0 := by omega
    go_enter Try.func17, Try.ntmps17
    go_wp2
    go_ret
    exact ⟨rfl, rfl⟩

theorem refFar_no (d : Int) (w : World) (h0 : 0 ≤ d) (h1 : d ≤ 16) :
    Calls Try.prog 17 #[.int .i64 d] w fun e w' => e = .returned (.bool false) ∧ w = w' := by
  have e : (decide (d < 0) || decide (16 < d)) = false := by simp; omega
  have E := Lib.hid e
  clear e
  go_enter Try.func17, Try.ntmps17
  go_wp2
  go_ret
  exact ⟨congrArg (fun x => Ending.returned (.bool x)) E.out, rfl⟩

def Off (d : Int) : Prop := d < 0 ∨ 16 < d
theorem inOrOff (d : Int) : (0 ≤ d ∧ d ≤ 16) ∨ Off d := by unfold Off; omega
theorem refFar_off (d : Int) (w : World) (h : Off d) :
    Calls Try.prog 17 #[.int .i64 d] w fun e w' => e = .returned (.bool true) ∧ w = w' := refFar_yes d w h

set_option maxHeartbeats 1600000 in
theorem distRing_iii (a b c : Int) (w : World) (a0 : 0 ≤ a) (a1 : a ≤ 16) (b0 : 0 ≤ b) (b1 : b ≤ 16) (c0 : 0 ≤ c) (c1 : c ≤ 16) :
    Calls Try.prog 4 #[.int .i64 a, .int .i64 b, .int .i64 c] w fun e w' => e = .returned (.bool true) ∧ Below w.heap.size w w' := by
  have K0 : (min (18 : Int) 16 != 16) = false := by decide
  have HB := Below.refl w.heap.size w
  have K1 : (min (min (a + b) 16 + c) 16 == min (a + min (b + c) 16) 16) = true := by rw [beq_iff_eq]; omega
  have K2 : (min (a + min b c) 16 == min (min (a + b) 16) (min (a + c) 16)) = true := by rw [beq_iff_eq]; omega
  have K3 : a ≤ min (a + b) 16 := by omega
  have K4 : min b c ≤ b := by omega
  have K5 : min b c ≤ c := by omega
  go_enter Try.func4, Try.ntmps4
  go_wp2_with (first | (go_at_call 15; (with_reducible refine (distAdd_ok _ _ _ (by omega) (by omega) (by omega) (by omega)).mono ?_); rintro e w' ⟨rfl, hb⟩; replace HB := keep HB hb) | (go_at_call 16; (with_reducible refine (distLess_ok _ _ _ (by omega) (by omega) (by omega) (by omega)).mono ?_); rintro e w' ⟨rfl, hb⟩; replace HB := keep HB hb))
  go_ret
  exact ⟨rfl, HB⟩

set_option maxHeartbeats 1600000 in
theorem distRing_iio (a b c : Int) (w : World) (a0 : 0 ≤ a) (a1 : a ≤ 16) (b0 : 0 ≤ b) (b1 : b ≤ 16) (Hc : Off c) :
    Calls Try.prog 4 #[.int .i64 a, .int .i64 b, .int .i64 c] w fun e w' => e = .returned (.bool true) ∧ Below w.heap.size w w' := by
  have K0 : (min (18 : Int) 16 != 16) = false := by decide
  have HB := Below.refl w.heap.size w
  have Hbc : OutOf b c := by have := Hc; unfold Off at this; unfold OutOf; omega
  have Hac : OutOf a c := by have := Hc; unfold Off at this; unfold OutOf; omega
  go_enter Try.func4, Try.ntmps4
  go_wp2_with (first | (go_at_call 15; (with_reducible refine (distAdd_bad _ _ _ Hbc).mono ?_); rintro e w' ⟨rfl, hb⟩; replace HB := keep HB hb) | (go_at_call 16; (with_reducible refine (distLess_bad _ _ _ Hbc).mono ?_); rintro e w' ⟨rfl, hb⟩; replace HB := keep HB hb) | (go_at_call 15; (with_reducible refine (distAdd_bad _ _ _ Hac).mono ?_); rintro e w' ⟨rfl, hb⟩; replace HB := keep HB hb) | (go_at_call 15; (with_reducible refine (distAdd_ok _ _ _ (by omega) (by omega) (by omega) (by omega)).mono ?_); rintro e w' ⟨rfl, hb⟩; replace HB := keep HB hb) | (go_at_call 17; (with_reducible refine (refFar_off _ _ Hc).mono ?_); rintro e w' ⟨rfl, rfl⟩) | (go_at_call 17; (with_reducible refine (refFar_no _ _ (by omega) (by omega)).mono ?_); rintro e w' ⟨rfl, rfl⟩))
  go_ret
  exact ⟨rfl, HB⟩

set_option maxHeartbeats 1600000 in
theorem distRing_ioi (a b c : Int) (w : World) (a0 : 0 ≤ a) (a1 : a ≤ 16) (Hb : Off b) (c0 : 0 ≤ c) (c1 : c ≤ 16) :
    Calls Try.prog 4 #[.int .i64 a, .int .i64 b, .int .i64 c] w fun e w' => e = .returned (.bool true) ∧ Below w.heap.size w w' := by
  have K0 : (min (18 : Int) 16 != 16) = false := by decide
  have HB := Below.refl w.heap.size w
  have Hab : OutOf a b := by have := Hb; unfold Off at this; unfold OutOf; omega
  have Hbc : OutOf b c := by have := Hb; unfold Off at this; unfold OutOf; omega
  go_enter Try.func4, Try.ntmps4
  go_wp2_with (first | (go_at_call 15; (with_reducible refine (distAdd_bad _ _ _ Hab).mono ?_); rintro e w' ⟨rfl, hb⟩; replace HB := keep HB hb) | (go_at_call 15; (with_reducible refine (distAdd_bad _ _ _ Hbc).mono ?_); rintro e w' ⟨rfl, hb⟩; replace HB := keep HB hb) | (go_at_call 16; (with_reducible refine (distLess_bad _ _ _ Hbc).mono ?_); rintro e w' ⟨rfl, hb⟩; replace HB := keep HB hb) | (go_at_call 15; (with_reducible refine (distAdd_ok _ _ _ (by omega) (by omega) (by omega) (by omega)).mono ?_); rintro e w' ⟨rfl, hb⟩; replace HB := keep HB hb) | (go_at_call 17; (with_reducible refine (refFar_off _ _ Hb).mono ?_); rintro e w' ⟨rfl, rfl⟩) | (go_at_call 17; (with_reducible refine (refFar_no _ _ (by omega) (by omega)).mono ?_); rintro e w' ⟨rfl, rfl⟩))
  go_ret
  exact ⟨rfl, HB⟩

set_option maxHeartbeats 1600000 in
theorem distRing_ioo (a b c : Int) (w : World) (a0 : 0 ≤ a) (a1 : a ≤ 16) (Hb : Off b) (Hc : Off c) :
    Calls Try.prog 4 #[.int .i64 a, .int .i64 b, .int .i64 c] w fun e w' => e = .returned (.bool true) ∧ Below w.heap.size w w' := by
  have K0 : (min (18 : Int) 16 != 16) = false := by decide
  have HB := Below.refl w.heap.size w
  have Hab : OutOf a b := by have := Hb; unfold Off at this; unfold OutOf; omega
  have Hbc : OutOf b c := by have := Hb; unfold Off at this; have := Hc; unfold Off at this; unfold OutOf; omega
  have Hac : OutOf a c := by have := Hc; unfold Off at this; unfold OutOf; omega
  go_enter Try.func4, Try.ntmps4
  go_wp2_with (first | (go_at_call 15; (with_reducible refine (distAdd_bad _ _ _ Hab).mono ?_); rintro e w' ⟨rfl, hb⟩; replace HB := keep HB hb) | (go_at_call 15; (with_reducible refine (distAdd_bad _ _ _ Hbc).mono ?_); rintro e w' ⟨rfl, hb⟩; replace HB := keep HB hb) | (go_at_call 16; (with_reducible refine (distLess_bad _ _ _ Hbc).mono ?_); rintro e w' ⟨rfl, hb⟩; replace HB := keep HB hb) | (go_at_call 15; (with_reducible refine (distAdd_bad _ _ _ Hac).mono ?_); rintro e w' ⟨rfl, hb⟩; replace HB := keep HB hb) | (go_at_call 15; (with_reducible refine (distAdd_ok _ _ _ (by omega) (by omega) (by omega) (by omega)).mono ?_); rintro e w' ⟨rfl, hb⟩; replace HB := keep HB hb) | (go_at_call 17; (with_reducible refine (refFar_off _ _ Hb).mono ?_); rintro e w' ⟨rfl, rfl⟩) | (go_at_call 17; (with_reducible refine (refFar_off _ _ Hc).mono ?_); rintro e w' ⟨rfl, rfl⟩) | (go_at_call 17; (with_reducible refine (refFar_no _ _ (by omega) (by omega)).mono ?_); rintro e w' ⟨rfl, rfl⟩))
  go_ret
  exact ⟨rfl, HB⟩

set_option maxHeartbeats 1600000 in
theorem distRing_oii (a b c : Int) (w : World) (Ha : Off a) (b0 : 0 ≤ b) (b1 : b ≤ 16) (c0 : 0 ≤ c) (c1 : c ≤ 16) :
    Calls Try.prog 4 #[.int .i64 a, .int .i64 b, .int .i64 c] w fun e w' => e = .returned (.bool true) ∧ Below w.heap.size w w' := by
  have K0 : (min (18 : Int) 16 != 16) = false := by decide
  have HB := Below.refl w.heap.size w
  have Hab : OutOf a b := by have := Ha; unfold Off at this; unfold OutOf; omega
  have Hac : OutOf a c := by have := Ha; unfold Off at this; unfold OutOf; omega
  go_enter Try.func4, Try.ntmps4
  go_wp2_with (first | (go_at_call 15; (with_reducible refine (distAdd_bad _ _ _ Hab).mono ?_); rintro e w' ⟨rfl, hb⟩; replace HB := keep HB hb) | (go_at_call 15; (with_reducible refine (distAdd_bad _ _ _ Hac).mono ?_); rintro e w' ⟨rfl, hb⟩; replace HB := keep HB hb) | (go_at_call 15; (with_reducible refine (distAdd_ok _ _ _ (by omega) (by omega) (by omega) (by omega)).mono ?_); rintro e w' ⟨rfl, hb⟩; replace HB := keep HB hb) | (go_at_call 16; (with_reducible refine (distLess_ok _ _ _ (by omega) (by omega) (by omega) (by omega)).mono ?_); rintro e w' ⟨rfl, hb⟩; replace HB := keep HB hb) | (go_at_call 17; (with_reducible refine (refFar_off _ _ Ha).mono ?_); rintro e w' ⟨rfl, rfl⟩) | (go_at_call 17; (with_reducible refine (refFar_no _ _ (by omega) (by omega)).mono ?_); rintro e w' ⟨rfl, rfl⟩))
  go_ret
  exact ⟨rfl, HB⟩

set_option maxHeartbeats 1600000 in
theorem distRing_oio (a b c : Int) (w : World) (Ha : Off a) (b0 : 0 ≤ b) (b1 : b ≤ 16) (Hc : Off c) :
    Calls Try.prog 4 #[.int .i64 a, .int .i64 b, .int .i64 c] w fun e w' => e = .returned (.bool true) ∧ Below w.heap.size w w' := by
  have K0 : (min (18 : Int) 16 != 16) = false := by decide
  have HB := Below.refl w.heap.size w
  have Hab : OutOf a b := by have := Ha; unfold Off at this; unfold OutOf; omega
  have Hbc : OutOf b c := by have := Hc; unfold Off at this; unfold OutOf; omega
  have Hac : OutOf a c := by have := Ha; unfold Off at this; have := Hc; unfold Off at this; unfold OutOf; omega
  go_enter Try.func4, Try.ntmps4
  go_wp2_with (first | (go_at_call 15; (with_reducible refine (distAdd_bad _ _ _ Hab).mono ?_); rintro e w' ⟨rfl, hb⟩; replace HB := keep HB hb) | (go_at_call 15; (with_reducible refine (distAdd_bad _ _ _ Hbc).mono ?_); rintro e w' ⟨rfl, hb⟩; replace HB := keep HB hb) | (go_at_call 16; (with_reducible refine (distLess_bad _ _ _ Hbc).mono ?_); rintro e w' ⟨rfl, hb⟩; replace HB := keep HB hb) | (go_at_call 15; (with_reducible refine (distAdd_bad _ _ _ Hac).mono ?_); rintro e w' ⟨rfl, hb⟩; replace HB := keep HB hb) | (go_at_call 15; (with_reducible refine (distAdd_ok _ _ _ (by omega) (by omega) (by omega) (by omega)).mono ?_); rintro e w' ⟨rfl, hb⟩; replace HB := keep HB hb) | (go_at_call 17; (with_reducible refine (refFar_off _ _ Ha).mono ?_); rintro e w' ⟨rfl, rfl⟩) | (go_at_call 17; (with_reducible refine (refFar_off _ _ Hc).mono ?_); rintro e w' ⟨rfl, rfl⟩) | (go_at_call 17; (with_reducible refine (refFar_no _ _ (by omega) (by omega)).mono ?_); rintro e w' ⟨rfl, rfl⟩))
  go_ret
  exact ⟨rfl, HB⟩

set_option maxHeartbeats 1600000 in
theorem distRing_ooi (a b c : Int) (w : World) (Ha : Off a) (Hb : Off b) (c0 : 0 ≤ c) (c1 : c ≤ 16) :
    Calls Try.prog 4 #[.int .i64 a, .int .i64 b, .int .i64 c] w fun e w' => e = .returned (.bool true) ∧ Below w.heap.size w w' := by
  have K0 : (min (18 : Int) 16 != 16) = false := by decide
  have HB := Below.refl w.heap.size w
  have Hab : OutOf a b := by have := Ha; unfold Off at this; have := Hb; unfold Off at this; unfold OutOf; omega
  have Hbc : OutOf b c := by have := Hb; unfold Off at this; unfold OutOf; omega
  have Hac : OutOf a c := by have := Ha; unfold Off at this; unfold OutOf; omega
  go_enter Try.func4, Try.ntmps4
  go_wp2_with (first | (go_at_call 15; (with_reducible refine (distAdd_bad _ _ _ Hab).mono ?_); rintro e w' ⟨rfl, hb⟩; replace HB := keep HB hb) | (go_at_call 15; (with_reducible refine (distAdd_bad _ _ _ Hbc).mono ?_); rintro e w' ⟨rfl, hb⟩; replace HB := keep HB hb) | (go_at_call 16; (with_reducible refine (distLess_bad _ _ _ Hbc).mono ?_); rintro e w' ⟨rfl, hb⟩; replace HB := keep HB hb) | (go_at_call 15; (with_reducible refine (distAdd_bad _ _ _ Hac).mono ?_); rintro e w' ⟨rfl, hb⟩; replace HB := keep HB hb) | (go_at_call 15; (with_reducible refine (distAdd_ok _ _ _ (by omega) (by omega) (by omega) (by omega)).mono ?_); rintro e w' ⟨rfl, hb⟩; replace HB := keep HB hb) | (go_at_call 17; (with_reducible refine (refFar_off _ _ Ha).mono ?_); rintro e w' ⟨rfl, rfl⟩) | (go_at_call 17; (with_reducible refine (refFar_off _ _ Hb).mono ?_); rintro e w' ⟨rfl, rfl⟩) | (go_at_call 17; (with_reducible refine (refFar_no _ _ (by omega) (by omega)).mono ?_); rintro e w' ⟨rfl, rfl⟩))
  go_ret
  exact ⟨rfl, HB⟩

set_option maxHeartbeats 1600000 in
theorem distRing_ooo (a b c : Int) (w : World) (Ha : Off a) (Hb : Off b) (Hc : Off c) :
    Calls Try.prog 4 #[.int .i64 a, .int .i64 b, .int .i64 c] w fun e w' => e = .returned (.bool true) ∧ Below w.heap.size w w' := by
  have K0 : (min (18 : Int) 16 != 16) = false := by decide
  have HB := Below.refl w.heap.size w
  have Hab : OutOf a b := by have := Ha; unfold Off at this; have := Hb; unfold Off at this; unfold OutOf; omega
  have Hbc : OutOf b c := by have := Hb; unfold Off at this; have := Hc; unfold Off at this; unfold OutOf; omega
  have Hac : OutOf a c := by have := Ha; unfold Off at this; have := Hc; unfold Off at this; unfold OutOf; omega
  go_enter Try.func4, Try.ntmps4
  go_wp2_with (first | (go_at_call 15; (with_reducible refine (distAdd_bad _ _ _ Hab).mono ?_); rintro e w' ⟨rfl, hb⟩; replace HB := keep HB hb) | (go_at_call 15; (with_reducible refine (distAdd_bad _ _ _ Hbc).mono ?_); rintro e w' ⟨rfl, hb⟩; replace HB := keep HB hb) | (go_at_call 16; (with_reducible refine (distLess_bad _ _ _ Hbc).mono ?_); rintro e w' ⟨rfl, hb⟩; replace HB := keep HB hb) | (go_at_call 15; (with_reducible refine (distAdd_bad _ _ _ Hac).mono ?_); rintro e w' ⟨rfl, hb⟩; replace HB := keep HB hb) | (go_at_call 15; (with_reducible refine (distAdd_ok _ _ _ (by omega) (by omega) (by omega) (by omega)).mono ?_); rintro e w' ⟨rfl, hb⟩; replace HB := keep HB hb) | (go_at_call 17; (with_reducible refine (refFar_off _ _ Ha).mono ?_); rintro e w' ⟨rfl, rfl⟩) | (go_at_call 17; (with_reducible refine (refFar_off _ _ Hb).mono ?_); rintro e w' ⟨rfl, rfl⟩) | (go_at_call 17; (with_reducible refine (refFar_off _ _ Hc).mono ?_); rintro e w' ⟨rfl, rfl⟩) | (go_at_call 17; (with_reducible refine (refFar_no _ _ (by omega) (by omega)).mono ?_); rintro e w' ⟨rfl, rfl⟩))
  go_ret
  exact ⟨rfl, HB⟩

theorem distRing_walk (a b c : Int) (w : World) :
    Calls Try.prog 4 #[.int .i64 a, .int .i64 b, .int .i64 c] w fun e w' => e = .returned (.bool true) ∧ Below w.heap.size w w' := by
  rcases inOrOff a with ⟨a0, a1⟩ | Ha <;> rcases inOrOff b with ⟨b0, b1⟩ | Hb <;> rcases inOrOff c with ⟨c0, c1⟩ | Hc
  · exact distRing_iii a b c w a0 a1 b0 b1 c0 c1
  · exact distRing_iio a b c w a0 a1 b0 b1 Hc
  · exact distRing_ioi a b c w a0 a1 Hb c0 c1
  · exact distRing_ioo a b c w a0 a1 Hb Hc
  · exact distRing_oii a b c w Ha b0 b1 c0 c1
  · exact distRing_oio a b c w Ha b0 b1 Hc
  · exact distRing_ooi a b c w Ha Hb c0 c1
  · exact distRing_ooo a b c w Ha Hb Hc

end Go.Proofs.Ytjijpcjbigdgjaa

/- The penalty falls, and comes back: plain integers. -/
import Derived.Test.YtdilajieimbdnaaDoorDamp
namespace Go.Proofs.YtdilajieimbdnaaDoor
open Go.RowKit
set_option linter.unusedVariables false

theorem pen_pow {pen q : Int} (k : Nat) (h0 : 0 ≤ pen) (hk : k ≤ 62) (hq : (k : Int) ≤ q) : pen / 2 ^ (min q 62).toNat ≤ pen / 2 ^ k := by
  obtain ⟨m, hm⟩ : ∃ m : Nat, (min q 62).toNat = k + m := ⟨(min q 62).toNat - k, by omega⟩
  rw [hm, Int.pow_add, ← Int.ediv_ediv_of_nonneg (Int.pow_nonneg (by omega))]
  exact Int.ediv_le_self _ (Int.ediv_nonneg h0 (Int.pow_nonneg (by omega)))

theorem quo_step {half a b : Int} (k : Int) (h1 : 1 ≤ half) (h : k * half ≤ b - a) : k ≤ b / half - a / half := by
  have e := Int.add_mul_ediv_right a k (show half ≠ 0 by omega)
  have m := Int.ediv_le_ediv (show 0 < half by omega) (show a + k * half ≤ b by omega)
  omega

theorem penAt_half {half now pen t : Int} (h1 : 1 ≤ half) (h0 : 0 ≤ pen) (h : half ≤ t - now) : 2 * penAt half now pen t ≤ pen := by
  have := pen_pow 1 h0 (by omega) (quo_step 1 h1 (by omega : (1 : Int) * half ≤ t - now))
  unfold penAt
  have e : pen / 2 ^ 1 = pen / 2 := by simp
  omega

theorem heldAt_five {half now pen t : Int} {held : Bool} (h1 : 1 ≤ half) (h0 : 0 ≤ pen) (hp : pen ≤ 12000) (h : 5 * half ≤ t - now) : heldAt half now pen t held = false := by
  have := pen_pow 5 h0 (by omega) (quo_step 5 h1 h)
  have e : pen / 2 ^ 5 = pen / 32 := by simp
  have hlt : ¬ 750 ≤ penAt half now pen t := by unfold penAt; omega
  unfold heldAt
  rw [decide_eq_false hlt, Bool.and_false]

set_option maxHeartbeats 800000 in
theorem damped_walk (w : World) :
    Calls Tryd.prog 9 #[] w fun e w' => e = .returned (.bool true) ∧ Below w.heap.size w w' := by
  go_enter Tryd.func9, Tryd.ntmps9
  go_wp2_with fail
  refine (dampNew_ok 10 _ (by omega) (by omega)).mono ?_
  rintro e w1 ⟨rfl, hd1, hb1⟩
  have hz : w.heap.size < w1.heap.size := hd1.blk.lt
  go_wp2_with fail
  refine (dampFlap_ok _ _ _ _ _ _ _ hd1 (by omega) (by omega)).mono ?_
  rintro e w2 ⟨rfl, hd2, hg2⟩
  go_wp2_with fail
  refine (dampAt_ok _ _ _ _ _ _ _ hd2 (by omega) (by omega)).mono ?_
  rintro e w3 ⟨rfl, hd3, hg3⟩
  have hb3 := below_only (below_only hb1 hg2 hb1.size (Nat.le_refl _)) hg3 (Nat.le_trans hb1.size hg2.size) (Nat.le_refl _)
  have e1 : penAt 10 0 (flapped (penAt 10 0 0 0)) 10 = 500 := by decide
  have e2 : heldAt 10 0 (flapped (penAt 10 0 0 0)) 10 (heldAt 10 0 0 0 false || decide (2000 < flapped (penAt 10 0 0 0))) = false := by decide
  clear hd1 hd2 hd3
  go_wp2
  go_ret
  exact ⟨rfl, hb3⟩

end Go.Proofs.YtdilajieimbdnaaDoor

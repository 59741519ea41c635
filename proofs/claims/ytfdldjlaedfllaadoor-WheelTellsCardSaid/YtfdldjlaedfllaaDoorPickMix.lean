/- What hops are mixed to; which of two stands ahead: the small walks of package pick. -/
import Derived.Test.YtfdldjlaedfllaaDoorOwnV
import Derived.Lib.Hide
namespace Go.Proofs.YtfdldjlaedfllaaDoor
open Go.RowKit
set_option linter.unusedVariables false

/-- cmp.Compare of numbers. -/
def cmpI (x y : Int) : Int := if x < y then -1 else if y < x then 1 else 0

set_option maxRecDepth 100000 in
set_option maxHeartbeats 1000000 in
theorem isNaN_walk (x : Int) (w : World) : Calls Tryd.prog 44 #[.int .i64 x] w fun e w' => e = .returned (.bool false) ∧ w' = w := by
  go_enter Tryd.func44, Tryd.ntmps44
  go_wp2_with fail
  go_ret
  exact ⟨by simp, rfl⟩

set_option maxRecDepth 100000 in
set_option maxHeartbeats 1000000 in
theorem cmp_walk (x y : Int) (w : World) : Calls Tryd.prog 34 #[.int .i64 x, .int .i64 y] w fun e w' => e = .returned (.int .i64 (cmpI x y)) ∧ w' = w := by
  rcases Int.lt_trichotomy x y with h | h | h
  · have e : cmpI x y = -1 := if_pos h
    have d1 : decide (x < y) = true := decide_eq_true h
    rw [e]
    go_enter Tryd.func34, Tryd.ntmps34
    go_wp2_with fail
    refine (isNaN_walk x w).mono ?_
    rintro e w1 ⟨rfl, h1⟩
    subst w1
    go_wp2_with fail
    refine (isNaN_walk y w).mono ?_
    rintro e w1 ⟨rfl, h1⟩
    subst w1
    go_wp2_with fail
    go_ret
    exact ⟨rfl, rfl⟩
  · have e : cmpI x y = 0 := by unfold cmpI; rw [if_neg (by omega), if_neg (by omega)]
    have d1 : decide (x < y) = false := decide_eq_false (by omega)
    have d2 : decide (y < x) = false := decide_eq_false (by omega)
    rw [e]
    clear h
    go_enter Tryd.func34, Tryd.ntmps34
    go_wp2_with fail
    refine (isNaN_walk x w).mono ?_
    rintro e w1 ⟨rfl, h1⟩
    subst w1
    go_wp2_with fail
    refine (isNaN_walk y w).mono ?_
    rintro e w1 ⟨rfl, h1⟩
    subst w1
    go_wp2_with fail
    go_ret
    exact ⟨rfl, rfl⟩
  · have e : cmpI x y = 1 := by unfold cmpI; rw [if_neg (by omega), if_pos (by omega)]
    have d1 : decide (x < y) = false := decide_eq_false (by omega)
    have d2 : decide (y < x) = true := decide_eq_true h
    rw [e]
    go_enter Tryd.func34, Tryd.ntmps34
    go_wp2_with fail
    refine (isNaN_walk x w).mono ?_
    rintro e w1 ⟨rfl, h1⟩
    subst w1
    go_wp2_with fail
    refine (isNaN_walk y w).mono ?_
    rintro e w1 ⟨rfl, h1⟩
    subst w1
    go_wp2_with fail
    go_ret
    exact ⟨rfl, rfl⟩

set_option maxRecDepth 100000 in
set_option maxHeartbeats 1000000 in
/-- cmp.Or of two. -/
theorem or_walk (ad : Addr) (c : Nat) (x y : Int) (w : World) (h0 : w.cell? ad = some (.int .i64 x)) (h1 : w.cell? (ad.add 1) = some (.int .i64 y)) :
    Calls Tryd.prog 26 #[.slice (some ad) 2 c] w fun e w' => e = .returned (.int .i64 (if x = 0 then y else x)) ∧ w' = w := by
  have h1' : w.cell? ⟨ad.block, ad.off + 1, none⟩ = some (.int .i64 y) := h1
  clear h1
  by_cases hx : x = 0
  · subst hx
    rw [if_pos rfl]
    go_enter Tryd.func26, Tryd.ntmps26
    go_wp2_with fail
    by_cases hy : y = 0
    · subst hy
      refine wp_loop_rounds 3 ?_
      rw [rounds_succ]
      go_wp2_with fail
      rw [rounds_succ]
      go_wp2_with fail
      rw [rounds_succ]
      go_wp2_with fail
      go_ret
      exact ⟨rfl, rfl⟩
    · have hn : (y != 0) = true := bne_iff_ne.2 hy
      clear hy
      refine wp_loop_rounds 2 ?_
      rw [rounds_succ]
      go_wp2_with fail
      rw [rounds_succ]
      go_wp2_with fail
      go_ret
      exact ⟨rfl, rfl⟩
  · rw [if_neg hx]
    have hn : (x != 0) = true := bne_iff_ne.2 hx
    clear hx
    go_enter Tryd.func26, Tryd.ntmps26
    go_wp2_with fail
    refine wp_loop_rounds 1 ?_
    rw [rounds_succ]
    go_wp2_with fail
    go_ret
    exact ⟨rfl, rfl⟩

/-- What two numbers are mixed to, in between. -/
def mixA (x y : Int) : Int := bits BinOp.xor IntKind.u64 (IntKind.u64.wrap (IntKind.u64.wrap x * 11400714819323198485)) (IntKind.u64.wrap (IntKind.u64.wrap y * 14029467366897019727))
def mixB (a : Int) : Int := IntKind.u64.wrap (bits BinOp.xor IntKind.u64 a (a / 2147483648) * 13787848793156543929)
def mixI (x y : Int) : Int := wrap64 (bits BinOp.and IntKind.u64 (bits BinOp.xor IntKind.u64 (mixB (mixA x y)) (mixB (mixA x y) / 536870912)) 4294967295)

set_option maxRecDepth 100000 in
set_option maxHeartbeats 1000000 in
theorem mix_walk (x y : Int) (w : World) : Calls Tryd.prog 35 #[.int .i64 x, .int .i64 y] w fun e w' => e = .returned (.int .i64 (mixI x y)) ∧ w' = w := by
  go_enter Tryd.func35, Tryd.ntmps35
  go_wp2_with fail
  go_ret
  exact ⟨rfl, rfl⟩

end Go.Proofs.YtfdldjlaedfllaaDoor

/- The walks of package dist. -/
import Derived.Test.YtjbilhpdnmgljaaDoorBase
namespace Go.Proofs.YtjbilhpdnmgljaaDoor
open Go.RowKit

attribute [local go_sem high] run_min_pair

def OutOf (a b : Int) : Prop := (a < 0 ∨ 16 < a) ∨ (0 ≤ a ∧ a ≤ 16 ∧ (b < 0 ∨ 16 < b))
theorem inOrOut (a b : Int) : ((0 ≤ a ∧ a ≤ 16) ∧ 0 ≤ b ∧ b ≤ 16) ∨ OutOf a b := by unfold OutOf; omega

set_option maxHeartbeats 400000 in
theorem distCheck_ok (d : Int) (w : World) (h0 : 0 ≤ d) (h1 : d ≤ 16) :
    Calls Tryd.prog 13 #[.int .i64 d] w fun e w' => e = .returned .nilIface ∧ w = w' := by
  go_enter Tryd.func13, Tryd.ntmps13
  go_wp2
  go_ret
  exact ⟨rfl, rfl⟩

set_option maxHeartbeats 400000 in
theorem distCheck_bad (d : Int) (w : World) (h : d < 0 ∨ 16 < d) :
    Calls Tryd.prog 13 #[.int .i64 d] w fun e w' => e = .returned (errNo 1) ∧ w = w' := by
  rcases h with h | h
  · go_enter Tryd.func13, Tryd.ntmps13
    go_wp2
    go_ret
    exact ⟨rfl, rfl⟩
  · have h0 : ¬ d < 0 := by omega
    go_enter Tryd.func13, Tryd.ntmps13
    go_wp2
    go_ret
    exact ⟨rfl, rfl⟩

set_option maxHeartbeats 400000 in
theorem distAddFn (a b : Int) (w : World) (ha : 0 ≤ a) (ha' : a ≤ 16) (hb : 0 ≤ b) (hb' : b ≤ 16) :
    Calls Tryd.prog 53 #[.int .i64 a, .int .i64 b] w fun e w' => e = .returned (.int .i64 (min (a + b) 16)) ∧ w = w' := by
  go_enter Tryd.func53, Tryd.ntmps53
  go_wp2
  go_ret
  exact ⟨rfl, rfl⟩

set_option maxHeartbeats 400000 in
theorem distLessFn (a b : Int) (w : World) :
    Calls Tryd.prog 54 #[.int .i64 a, .int .i64 b] w fun e w' => e = .returned (.int .i64 (min a b)) ∧ w = w' := by
  go_enter Tryd.func54, Tryd.ntmps54
  go_wp2
  go_ret
  exact ⟨rfl, rfl⟩

set_option maxHeartbeats 400000 in
theorem distBoth_ok (F : Nat) (a b r : Int) (w : World) (ha : 0 ≤ a) (ha' : a ≤ 16) (hb : 0 ≤ b) (hb' : b ≤ 16)
    (hc : ∀ args w, (callFunc F args).run Tryd.prog w = .ok (.enter F args) w)
    (hF : ∀ w, Calls Tryd.prog F #[.int .i64 a, .int .i64 b] w fun e w' => e = .returned (.int .i64 r) ∧ w = w') :
    Calls Tryd.prog 52 #[.int .i64 a, .int .i64 b, .func (.func F) #[] #[]] w fun e w' => e = .returned (.tuple #[.int .i64 r, .nilIface]) ∧ Below w.heap.size w w' := by
  have HF := Lib.hid hF
  clear hF
  go_enter Tryd.func52, Tryd.ntmps52
  go_wp2_with fail
  go_loop [15] (fun i => ∃ k : Nat, k ≤ 2 ∧ i = .int .i64 k) (fun i => 2 - (intOf i).toNat)
  case atStart => exact ⟨0, by omega, rfl⟩
  case round =>
    obtain ⟨k, hk, rfl⟩ := hrel
    have h3 : k = 0 ∨ k = 1 ∨ k = 2 := by omega
    rcases h3 with rfl | rfl | rfl
    · go_wp2_with ((go_at_call 13; refine (distCheck_ok _ _ (by assumption) (by assumption)).mono ?_; rintro e w' ⟨rfl, rfl⟩))
      go_round
      case rel => exact ⟨1, by omega, rfl⟩
      case measure => simp [intOf]
    · go_wp2_with ((go_at_call 13; refine (distCheck_ok _ _ (by assumption) (by assumption)).mono ?_; rintro e w' ⟨rfl, rfl⟩))
      go_round
      case rel => exact ⟨2, by omega, rfl⟩
      case measure => simp [intOf]
    · go_wp2_with fail
      refine (HF.out _).mono ?_
      rintro e w' ⟨rfl, rfl⟩
      go_wp2
      go_ret2
      exact ⟨rfl, (Below.refl _ _).alloc (Nat.le_refl _) _⟩

set_option maxHeartbeats 400000 in
theorem distBoth_bad (f : Value) (a b : Int) (w : World) (h : (a < 0 ∨ 16 < a) ∨ (0 ≤ a ∧ a ≤ 16 ∧ (b < 0 ∨ 16 < b))) :
    Calls Tryd.prog 52 #[.int .i64 a, .int .i64 b, f] w fun e w' => e = .returned (.tuple #[.int .i64 0, errNo 1]) ∧ Below w.heap.size w w' := by
  rcases h with h | ⟨h0, h1, h⟩
  · go_enter Tryd.func52, Tryd.ntmps52
    go_wp2_with fail
    go_loop [15] (fun i => i = .int .i64 0) (fun i => 2 - (intOf i).toNat)
    case atStart => exact rfl
    case round =>
      subst hrel
      go_wp2_with ((go_at_call 13; refine (distCheck_bad _ _ (by assumption)).mono ?_; rintro e w' ⟨rfl, rfl⟩))
      go_ret2
      exact ⟨rfl, (Below.refl _ _).alloc (Nat.le_refl _) _⟩
  · go_enter Tryd.func52, Tryd.ntmps52
    go_wp2_with fail
    go_loop [15] (fun i => ∃ k : Nat, k ≤ 1 ∧ i = .int .i64 k) (fun i => 2 - (intOf i).toNat)
    case atStart => exact ⟨0, by omega, rfl⟩
    case round =>
      obtain ⟨k, hk, rfl⟩ := hrel
      have h3 : k = 0 ∨ k = 1 := by omega
      rcases h3 with rfl | rfl
      · go_wp2_with ((go_at_call 13; refine (distCheck_ok _ _ (by assumption) (by assumption)).mono ?_; rintro e w' ⟨rfl, rfl⟩))
        go_round
        case rel => exact ⟨1, by omega, rfl⟩
        case measure => simp [intOf]
      · go_wp2_with ((go_at_call 13; refine (distCheck_bad _ _ (by assumption)).mono ?_; rintro e w' ⟨rfl, rfl⟩))
        go_ret2
        exact ⟨rfl, (Below.refl _ _).alloc (Nat.le_refl _) _⟩

theorem callFunc_add (args : Array Value) (w : World) : (callFunc 53 args).run Tryd.prog w = .ok (.enter 53 args) w := by go_simp
theorem callFunc_less (args : Array Value) (w : World) : (callFunc 54 args).run Tryd.prog w = .ok (.enter 54 args) w := by go_simp

theorem distAdd_ok (a b : Int) (w : World) (ha : 0 ≤ a) (ha' : a ≤ 16) (hb : 0 ≤ b) (hb' : b ≤ 16) :
    Calls Tryd.prog 15 #[.int .i64 a, .int .i64 b] w fun e w' => e = .returned (.tuple #[.int .i64 (min (a + b) 16), .nilIface]) ∧ Below w.heap.size w w' := by
  go_enter Tryd.func15, Tryd.ntmps15
  go_wp2_with ((go_at_call 52; refine (distBoth_ok _ _ _ _ _ ha ha' hb hb' callFunc_add (fun w => distAddFn a b w ha ha' hb hb')).mono ?_; rintro e w' ⟨rfl, hb⟩))
  go_ret2
  exact ⟨rfl, hb⟩

theorem distLess_ok (a b : Int) (w : World) (ha : 0 ≤ a) (ha' : a ≤ 16) (hb : 0 ≤ b) (hb' : b ≤ 16) :
    Calls Tryd.prog 16 #[.int .i64 a, .int .i64 b] w fun e w' => e = .returned (.tuple #[.int .i64 (min a b), .nilIface]) ∧ Below w.heap.size w w' := by
  go_enter Tryd.func16, Tryd.ntmps16
  go_wp2_with ((go_at_call 52; refine (distBoth_ok _ _ _ _ _ ha ha' hb hb' callFunc_less (fun w => distLessFn a b w)).mono ?_; rintro e w' ⟨rfl, hb⟩))
  go_ret2
  exact ⟨rfl, hb⟩

theorem distAdd_bad (a b : Int) (w : World) (h : OutOf a b) :
    Calls Tryd.prog 15 #[.int .i64 a, .int .i64 b] w fun e w' => e = .returned (.tuple #[.int .i64 0, errNo 1]) ∧ Below w.heap.size w w' := by
  have H := Lib.hid h
  clear h
  go_enter Tryd.func15, Tryd.ntmps15
  go_wp2_with ((go_at_call 52; refine (distBoth_bad _ _ _ _ H.out).mono ?_; rintro e w' ⟨rfl, hb⟩))
  go_ret2
  exact ⟨rfl, hb⟩

theorem distLess_bad (a b : Int) (w : World) (h : OutOf a b) :
    Calls Tryd.prog 16 #[.int .i64 a, .int .i64 b] w fun e w' => e = .returned (.tuple #[.int .i64 0, errNo 1]) ∧ Below w.heap.size w w' := by
  have H := Lib.hid h
  clear h
  go_enter Tryd.func16, Tryd.ntmps16
  go_wp2_with ((go_at_call 52; refine (distBoth_bad _ _ _ _ H.out).mono ?_; rintro e w' ⟨rfl, hb⟩))
  go_ret2
  exact ⟨rfl, hb⟩

end Go.Proofs.YtjbilhpdnmgljaaDoor

/- BellTells: the walk. Printed by gen_belltells.py. -/
import Derived.Test.YtdilajieimbdnaaDoorRefBell
import Derived.Test.YtdilajieimbdnaaDoorRefGraph
import Derived.Test.YtdilajieimbdnaaDoorRounded
import Derived.Test.YtdilajieimbdnaaDoorErr
namespace Go.Proofs.YtdilajieimbdnaaDoor
open Go.RowKit
set_option linter.unusedVariables false

theorem takes_only {n t m k r : Nat} {a b c : Nat → Int} (hT : Takes n t a b c m k) (h : ∀ i, i < n → rounds t a b c m (startF t) r i = endF t a b c m i) (hno : ∀ j, j < r → ¬ ∀ i, i < n → rounds t a b c m (startF t) j i = endF t a b c m i) (hr : Right n m a b c) : k = r := by
  obtain ⟨-, h1, h2⟩ := hT
  rcases Nat.lt_trichotomy k r with hlt | e | hlt
  · exact absurd h1 (hno k hlt)
  · exact e
  · obtain ⟨i, hi, hne⟩ := h2 r hlt
    refine absurd ?_ hne
    have := end_stays (t := t) (d := rounds t a b c m (startF t) r) hr h i hi
    exact this

theorem start_or (x y : Int) : (x < 1 ∧ ((x < 1 ∨ 8 < x) ∨ (1 ≤ x ∧ x ≤ 8 ∧ (y < 0 ∨ x ≤ y)))) ∨ (1 ≤ x ∧ 8 < x) ∨ (1 ≤ x ∧ x ≤ 8 ∧ y < 0) ∨ (1 ≤ x ∧ x ≤ 8 ∧ 0 ≤ y ∧ x ≤ y) ∨ (1 ≤ x ∧ x ≤ 8 ∧ 0 ≤ y ∧ y < x) := by omega

set_option maxRecDepth 100000 in
set_option maxHeartbeats 8000000 in
theorem bellTells_walk (x : Int) (A : Option Addr) (m cp : Nat) (a b c : Nat → Int) (y : Int) (D : Option Addr) (kd cd : Nat) (d : Nat → Int) (w : World) (hg : ErrT w) (hl : Lnk w A m a b c) (hm : m ≤ 9223372036854775807) (hD : Vec w D kd d) (hkd : kd ≤ 9223372036854775807) :
    Calls Tryd.prog 5 #[.int .i64 x, .slice A m cp, .int .i64 y, .slice D kd cd] w fun e w' => e = .returned (.bool true) ∧ Below w.heap.size w w' := by
  have HL := Lib.hid hl
  have HD := Lib.hid hD
  have HG := Lib.hid hg
  clear hl hg hD
  rcases start_or x y with ⟨hx, -⟩ | ⟨hx0, hx⟩ | ⟨hx1, hx8, hy⟩ | ⟨hx1, hx8, hy0, hy⟩ | ⟨hx1, hx8, hy0, hy1⟩
  · have HF : Hid (FaultG x m a b c 1) := .inl ⟨.inl hx, rfl⟩
    have HSB : Hid ((x < 1 ∨ 8 < x) ∨ (1 ≤ x ∧ x ≤ 8 ∧ (y < 0 ∨ x ≤ y))) := .inl (.inl hx)
    go_enter Tryd.func5, Tryd.ntmps5
    go_wp2_with fail
    have hcall := rounded_walk w
    refine hcall.mono ?_
    clear hcall
    rintro e w1 ⟨rfl, hb1⟩
    have HB1 := Lib.hid hb1
    clear hb1
    go_wp2_with fail
    have hcall := bellStart_bad x y w1 HSB.out
    refine hcall.mono ?_
    clear hcall
    rintro e w2 ⟨rfl, hb2⟩
    have HB2 := Lib.hid (keep HB1.out hb2)
    clear hb2
    go_wp2_with fail
    have hcall := err_no 1 1 true ⟨fun _ => rfl, fun _ => rfl⟩ w2 (HG.out.keep HB2.out)
    refine hcall.mono ?_
    clear hcall
    rintro e w3 ⟨rfl, hb3⟩
    have HB3 := Lib.hid (keep HB2.out hb3)
    clear hb3
    go_wp2_with fail
    have hcall := ints_walk none none 0 0 0 0 (fun _ => 0) (fun _ => 0) w3 (fun j hj => absurd hj (by omega)) (fun j hj => absurd hj (by omega)) (by omega) (by omega) true ⟨fun _ => ⟨rfl, fun _ _ => rfl⟩, fun _ => rfl⟩
    refine hcall.mono ?_
    clear hcall
    rintro e w4 ⟨rfl, k4, hw4⟩
    have HB4 : Hid (Below w.heap.size w w4) := by subst w4; exact below_drewN HB3.out k4
    clear hw4
    go_wp2_with fail
    have hcall := graphFault_bad x A m cp a b c w4 (HL.out.keep HB4.out) hm 1 HF.out
    refine hcall.mono ?_
    clear hcall
    rintro e w5 ⟨rfl, hb5⟩
    have HB5 := Lib.hid (keep HB4.out hb5)
    clear hb5
    go_wp2_with fail
    go_loopw [16, 17] (fun v i wr => v = .int .i64 1 ∧ i = .int .i64 0 ∧ wr = w5) (fun _ _ _ => 0)
    case atStart => exact ⟨rfl, rfl, rfl⟩
    case round =>
      obtain ⟨rfl, rfl, hwr⟩ := hrel
      subst wr
      go_wp2_with fail
      have hcall := bellRound_bad x y A D m cp cd kd a b c d w5 (HL.out.keep HB5.out) (HD.out.keep HB5.out) hm hkd 1 (.inl HF.out)
      refine hcall.mono ?_
      clear hcall
      rintro e w6 ⟨rfl, hb6⟩
      have HB6 := Lib.hid (keep HB5.out hb6)
      clear hb6
      go_wp2_with fail
      have hcall := err_no 1 1 true ⟨fun _ => rfl, fun _ => rfl⟩ w6 (HG.out.keep HB6.out)
      refine hcall.mono ?_
      clear hcall
      rintro e w7 ⟨rfl, hb7⟩
      have HB7 := Lib.hid (keep HB6.out hb7)
      clear hb7
      go_wp2_with fail
      have hcall := ints_walk none none 0 0 0 0 (fun _ => 0) (fun _ => 0) w7 (fun j hj => absurd hj (by omega)) (fun j hj => absurd hj (by omega)) (by omega) (by omega) true ⟨fun _ => ⟨rfl, fun _ _ => rfl⟩, fun _ => rfl⟩
      refine hcall.mono ?_
      clear hcall
      rintro e w8 ⟨rfl, k8, hw8⟩
      have HB8 : Hid (Below w.heap.size w w8) := by subst w8; exact below_drewN HB7.out k8
      clear hw8
      go_wp2_with fail
      have hcall := bellRun_bad x y A m cp a b c w8 (HL.out.keep HB8.out) hm 1 (.inl HF.out)
      refine hcall.mono ?_
      clear hcall
      rintro e w9 ⟨rfl, hb9⟩
      have HB9 := Lib.hid (keep HB8.out hb9)
      clear hb9
      go_wp2_with fail
      have hcall := err_no 1 1 true ⟨fun _ => rfl, fun _ => rfl⟩ w9 (HG.out.keep HB9.out)
      refine hcall.mono ?_
      clear hcall
      rintro e w10 ⟨rfl, hb10⟩
      have HB10 := Lib.hid (keep HB9.out hb10)
      clear hb10
      go_wp2_with fail
      have hcall := ints_walk none none 0 0 0 0 (fun _ => 0) (fun _ => 0) w10 (fun j hj => absurd hj (by omega)) (fun j hj => absurd hj (by omega)) (by omega) (by omega) true ⟨fun _ => ⟨rfl, fun _ _ => rfl⟩, fun _ => rfl⟩
      refine hcall.mono ?_
      clear hcall
      rintro e w11 ⟨rfl, k11, hw11⟩
      have HB11 : Hid (Below w.heap.size w w11) := by subst w11; exact below_drewN HB10.out k11
      clear hw11
      go_wp2_with fail
      go_ret
      exact ⟨rfl, HB11.out⟩
  · have HF : Hid (FaultG x m a b c 1) := .inl ⟨.inr hx, rfl⟩
    have HSB : Hid ((x < 1 ∨ 8 < x) ∨ (1 ≤ x ∧ x ≤ 8 ∧ (y < 0 ∨ x ≤ y))) := .inl (.inr hx)
    go_enter Tryd.func5, Tryd.ntmps5
    go_wp2_with fail
    have hcall := rounded_walk w
    refine hcall.mono ?_
    clear hcall
    rintro e w1 ⟨rfl, hb1⟩
    have HB1 := Lib.hid hb1
    clear hb1
    go_wp2_with fail
    have hcall := bellStart_bad x y w1 HSB.out
    refine hcall.mono ?_
    clear hcall
    rintro e w2 ⟨rfl, hb2⟩
    have HB2 := Lib.hid (keep HB1.out hb2)
    clear hb2
    go_wp2_with fail
    have hcall := err_no 1 1 true ⟨fun _ => rfl, fun _ => rfl⟩ w2 (HG.out.keep HB2.out)
    refine hcall.mono ?_
    clear hcall
    rintro e w3 ⟨rfl, hb3⟩
    have HB3 := Lib.hid (keep HB2.out hb3)
    clear hb3
    go_wp2_with fail
    have hcall := ints_walk none none 0 0 0 0 (fun _ => 0) (fun _ => 0) w3 (fun j hj => absurd hj (by omega)) (fun j hj => absurd hj (by omega)) (by omega) (by omega) true ⟨fun _ => ⟨rfl, fun _ _ => rfl⟩, fun _ => rfl⟩
    refine hcall.mono ?_
    clear hcall
    rintro e w4 ⟨rfl, k4, hw4⟩
    have HB4 : Hid (Below w.heap.size w w4) := by subst w4; exact below_drewN HB3.out k4
    clear hw4
    go_wp2_with fail
    have hcall := graphFault_bad x A m cp a b c w4 (HL.out.keep HB4.out) hm 1 HF.out
    refine hcall.mono ?_
    clear hcall
    rintro e w5 ⟨rfl, hb5⟩
    have HB5 := Lib.hid (keep HB4.out hb5)
    clear hb5
    go_wp2_with fail
    go_loopw [16, 17] (fun v i wr => v = .int .i64 1 ∧ i = .int .i64 0 ∧ wr = w5) (fun _ _ _ => 0)
    case atStart => exact ⟨rfl, rfl, rfl⟩
    case round =>
      obtain ⟨rfl, rfl, hwr⟩ := hrel
      subst wr
      go_wp2_with fail
      have hcall := bellRound_bad x y A D m cp cd kd a b c d w5 (HL.out.keep HB5.out) (HD.out.keep HB5.out) hm hkd 1 (.inl HF.out)
      refine hcall.mono ?_
      clear hcall
      rintro e w6 ⟨rfl, hb6⟩
      have HB6 := Lib.hid (keep HB5.out hb6)
      clear hb6
      go_wp2_with fail
      have hcall := err_no 1 1 true ⟨fun _ => rfl, fun _ => rfl⟩ w6 (HG.out.keep HB6.out)
      refine hcall.mono ?_
      clear hcall
      rintro e w7 ⟨rfl, hb7⟩
      have HB7 := Lib.hid (keep HB6.out hb7)
      clear hb7
      go_wp2_with fail
      have hcall := ints_walk none none 0 0 0 0 (fun _ => 0) (fun _ => 0) w7 (fun j hj => absurd hj (by omega)) (fun j hj => absurd hj (by omega)) (by omega) (by omega) true ⟨fun _ => ⟨rfl, fun _ _ => rfl⟩, fun _ => rfl⟩
      refine hcall.mono ?_
      clear hcall
      rintro e w8 ⟨rfl, k8, hw8⟩
      have HB8 : Hid (Below w.heap.size w w8) := by subst w8; exact below_drewN HB7.out k8
      clear hw8
      go_wp2_with fail
      have hcall := bellRun_bad x y A m cp a b c w8 (HL.out.keep HB8.out) hm 1 (.inl HF.out)
      refine hcall.mono ?_
      clear hcall
      rintro e w9 ⟨rfl, hb9⟩
      have HB9 := Lib.hid (keep HB8.out hb9)
      clear hb9
      go_wp2_with fail
      have hcall := err_no 1 1 true ⟨fun _ => rfl, fun _ => rfl⟩ w9 (HG.out.keep HB9.out)
      refine hcall.mono ?_
      clear hcall
      rintro e w10 ⟨rfl, hb10⟩
      have HB10 := Lib.hid (keep HB9.out hb10)
      clear hb10
      go_wp2_with fail
      have hcall := ints_walk none none 0 0 0 0 (fun _ => 0) (fun _ => 0) w10 (fun j hj => absurd hj (by omega)) (fun j hj => absurd hj (by omega)) (by omega) (by omega) true ⟨fun _ => ⟨rfl, fun _ _ => rfl⟩, fun _ => rfl⟩
      refine hcall.mono ?_
      clear hcall
      rintro e w11 ⟨rfl, k11, hw11⟩
      have HB11 : Hid (Below w.heap.size w w11) := by subst w11; exact below_drewN HB10.out k11
      clear hw11
      go_wp2_with fail
      go_ret
      exact ⟨rfl, HB11.out⟩
  · have HY : Hid (y < 0 ∨ x ≤ y) := .inl hy
    have HSB : Hid ((x < 1 ∨ 8 < x) ∨ (1 ≤ x ∧ x ≤ 8 ∧ (y < 0 ∨ x ≤ y))) := .inr ⟨hx1, hx8, HY.out⟩
    go_enter Tryd.func5, Tryd.ntmps5
    go_wp2_with fail
    have hcall := rounded_walk w
    refine hcall.mono ?_
    clear hcall
    rintro e w1 ⟨rfl, hb1⟩
    have HB1 := Lib.hid hb1
    clear hb1
    go_wp2_with fail
    have hcall := bellStart_bad x y w1 HSB.out
    refine hcall.mono ?_
    clear hcall
    rintro e w2 ⟨rfl, hb2⟩
    have HB2 := Lib.hid (keep HB1.out hb2)
    clear hb2
    go_wp2_with fail
    have hcall := err_no 1 1 true ⟨fun _ => rfl, fun _ => rfl⟩ w2 (HG.out.keep HB2.out)
    refine hcall.mono ?_
    clear hcall
    rintro e w3 ⟨rfl, hb3⟩
    have HB3 := Lib.hid (keep HB2.out hb3)
    clear hb3
    go_wp2_with fail
    have hcall := ints_walk none none 0 0 0 0 (fun _ => 0) (fun _ => 0) w3 (fun j hj => absurd hj (by omega)) (fun j hj => absurd hj (by omega)) (by omega) (by omega) true ⟨fun _ => ⟨rfl, fun _ _ => rfl⟩, fun _ => rfl⟩
    refine hcall.mono ?_
    clear hcall
    rintro e w4 ⟨rfl, k4, hw4⟩
    have HB4 : Hid (Below w.heap.size w w4) := by subst w4; exact below_drewN HB3.out k4
    clear hw4
    go_wp2_with fail
    rcases graph_cases x m a b c with hgood | ⟨k, hk, hf⟩
    · have HGD := Lib.hid hgood
      clear hgood
      have hcall := graphFault_good x A m cp a b c w4 (HL.out.keep HB4.out) hm HGD.out
      refine hcall.mono ?_
      clear hcall
      rintro e w5 ⟨rfl, hb5⟩
      have HB5 := Lib.hid (keep HB4.out hb5)
      clear hb5
      go_wp2_with fail
      go_loopw [16, 17] (fun v i wr => v = .int .i64 1 ∧ i = .int .i64 0 ∧ wr = w5) (fun _ _ _ => 0)
      case atStart => exact ⟨rfl, rfl, rfl⟩
      case round =>
        obtain ⟨rfl, rfl, hwr⟩ := hrel
        subst wr
        go_wp2_with fail
        have hcall := bellRound_bad x y A D m cp cd kd a b c d w5 (HL.out.keep HB5.out) (HD.out.keep HB5.out) hm hkd 1 (.inr (.inl ⟨HGD.out, HY.out, rfl⟩))
        refine hcall.mono ?_
        clear hcall
        rintro e w6 ⟨rfl, hb6⟩
        have HB6 := Lib.hid (keep HB5.out hb6)
        clear hb6
        go_wp2_with fail
        have hcall := err_no 1 1 true ⟨fun _ => rfl, fun _ => rfl⟩ w6 (HG.out.keep HB6.out)
        refine hcall.mono ?_
        clear hcall
        rintro e w7 ⟨rfl, hb7⟩
        have HB7 := Lib.hid (keep HB6.out hb7)
        clear hb7
        go_wp2_with fail
        have hcall := ints_walk none none 0 0 0 0 (fun _ => 0) (fun _ => 0) w7 (fun j hj => absurd hj (by omega)) (fun j hj => absurd hj (by omega)) (by omega) (by omega) true ⟨fun _ => ⟨rfl, fun _ _ => rfl⟩, fun _ => rfl⟩
        refine hcall.mono ?_
        clear hcall
        rintro e w8 ⟨rfl, k8, hw8⟩
        have HB8 : Hid (Below w.heap.size w w8) := by subst w8; exact below_drewN HB7.out k8
        clear hw8
        go_wp2_with fail
        have hcall := bellRun_bad x y A m cp a b c w8 (HL.out.keep HB8.out) hm 1 (.inr ⟨HGD.out, HY.out, rfl⟩)
        refine hcall.mono ?_
        clear hcall
        rintro e w9 ⟨rfl, hb9⟩
        have HB9 := Lib.hid (keep HB8.out hb9)
        clear hb9
        go_wp2_with fail
        have hcall := err_no 1 1 true ⟨fun _ => rfl, fun _ => rfl⟩ w9 (HG.out.keep HB9.out)
        refine hcall.mono ?_
        clear hcall
        rintro e w10 ⟨rfl, hb10⟩
        have HB10 := Lib.hid (keep HB9.out hb10)
        clear hb10
        go_wp2_with fail
        have hcall := ints_walk none none 0 0 0 0 (fun _ => 0) (fun _ => 0) w10 (fun j hj => absurd hj (by omega)) (fun j hj => absurd hj (by omega)) (by omega) (by omega) true ⟨fun _ => ⟨rfl, fun _ _ => rfl⟩, fun _ => rfl⟩
        refine hcall.mono ?_
        clear hcall
        rintro e w11 ⟨rfl, k11, hw11⟩
        have HB11 : Hid (Below w.heap.size w w11) := by subst w11; exact below_drewN HB10.out k11
        clear hw11
        go_wp2_with fail
        go_ret
        exact ⟨rfl, HB11.out⟩
    · have HF := Lib.hid hf
      clear hf
      rcases hk with rfl | rfl | rfl
      · have hcall := graphFault_bad x A m cp a b c w4 (HL.out.keep HB4.out) hm 1 HF.out
        refine hcall.mono ?_
        clear hcall
        rintro e w5 ⟨rfl, hb5⟩
        have HB5 := Lib.hid (keep HB4.out hb5)
        clear hb5
        go_wp2_with fail
        go_loopw [16, 17] (fun v i wr => v = .int .i64 1 ∧ i = .int .i64 0 ∧ wr = w5) (fun _ _ _ => 0)
        case atStart => exact ⟨rfl, rfl, rfl⟩
        case round =>
          obtain ⟨rfl, rfl, hwr⟩ := hrel
          subst wr
          go_wp2_with fail
          have hcall := bellRound_bad x y A D m cp cd kd a b c d w5 (HL.out.keep HB5.out) (HD.out.keep HB5.out) hm hkd 1 (.inl HF.out)
          refine hcall.mono ?_
          clear hcall
          rintro e w6 ⟨rfl, hb6⟩
          have HB6 := Lib.hid (keep HB5.out hb6)
          clear hb6
          go_wp2_with fail
          have hcall := err_no 1 1 true ⟨fun _ => rfl, fun _ => rfl⟩ w6 (HG.out.keep HB6.out)
          refine hcall.mono ?_
          clear hcall
          rintro e w7 ⟨rfl, hb7⟩
          have HB7 := Lib.hid (keep HB6.out hb7)
          clear hb7
          go_wp2_with fail
          have hcall := ints_walk none none 0 0 0 0 (fun _ => 0) (fun _ => 0) w7 (fun j hj => absurd hj (by omega)) (fun j hj => absurd hj (by omega)) (by omega) (by omega) true ⟨fun _ => ⟨rfl, fun _ _ => rfl⟩, fun _ => rfl⟩
          refine hcall.mono ?_
          clear hcall
          rintro e w8 ⟨rfl, k8, hw8⟩
          have HB8 : Hid (Below w.heap.size w w8) := by subst w8; exact below_drewN HB7.out k8
          clear hw8
          go_wp2_with fail
          have hcall := bellRun_bad x y A m cp a b c w8 (HL.out.keep HB8.out) hm 1 (.inl HF.out)
          refine hcall.mono ?_
          clear hcall
          rintro e w9 ⟨rfl, hb9⟩
          have HB9 := Lib.hid (keep HB8.out hb9)
          clear hb9
          go_wp2_with fail
          have hcall := err_no 1 1 true ⟨fun _ => rfl, fun _ => rfl⟩ w9 (HG.out.keep HB9.out)
          refine hcall.mono ?_
          clear hcall
          rintro e w10 ⟨rfl, hb10⟩
          have HB10 := Lib.hid (keep HB9.out hb10)
          clear hb10
          go_wp2_with fail
          have hcall := ints_walk none none 0 0 0 0 (fun _ => 0) (fun _ => 0) w10 (fun j hj => absurd hj (by omega)) (fun j hj => absurd hj (by omega)) (by omega) (by omega) true ⟨fun _ => ⟨rfl, fun _ _ => rfl⟩, fun _ => rfl⟩
          refine hcall.mono ?_
          clear hcall
          rintro e w11 ⟨rfl, k11, hw11⟩
          have HB11 : Hid (Below w.heap.size w w11) := by subst w11; exact below_drewN HB10.out k11
          clear hw11
          go_wp2_with fail
          go_ret
          exact ⟨rfl, HB11.out⟩
      · have hcall := graphFault_bad x A m cp a b c w4 (HL.out.keep HB4.out) hm 3 HF.out
        refine hcall.mono ?_
        clear hcall
        rintro e w5 ⟨rfl, hb5⟩
        have HB5 := Lib.hid (keep HB4.out hb5)
        clear hb5
        go_wp2_with fail
        go_loopw [16, 17] (fun v i wr => v = .int .i64 3 ∧ i = .int .i64 0 ∧ wr = w5) (fun _ _ _ => 0)
        case atStart => exact ⟨rfl, rfl, rfl⟩
        case round =>
          obtain ⟨rfl, rfl, hwr⟩ := hrel
          subst wr
          go_wp2_with fail
          have hcall := bellRound_bad x y A D m cp cd kd a b c d w5 (HL.out.keep HB5.out) (HD.out.keep HB5.out) hm hkd 3 (.inl HF.out)
          refine hcall.mono ?_
          clear hcall
          rintro e w6 ⟨rfl, hb6⟩
          have HB6 := Lib.hid (keep HB5.out hb6)
          clear hb6
          go_wp2_with fail
          have hcall := err_no 3 3 true ⟨fun _ => rfl, fun _ => rfl⟩ w6 (HG.out.keep HB6.out)
          refine hcall.mono ?_
          clear hcall
          rintro e w7 ⟨rfl, hb7⟩
          have HB7 := Lib.hid (keep HB6.out hb7)
          clear hb7
          go_wp2_with fail
          have hcall := ints_walk none none 0 0 0 0 (fun _ => 0) (fun _ => 0) w7 (fun j hj => absurd hj (by omega)) (fun j hj => absurd hj (by omega)) (by omega) (by omega) true ⟨fun _ => ⟨rfl, fun _ _ => rfl⟩, fun _ => rfl⟩
          refine hcall.mono ?_
          clear hcall
          rintro e w8 ⟨rfl, k8, hw8⟩
          have HB8 : Hid (Below w.heap.size w w8) := by subst w8; exact below_drewN HB7.out k8
          clear hw8
          go_wp2_with fail
          have hcall := bellRun_bad x y A m cp a b c w8 (HL.out.keep HB8.out) hm 3 (.inl HF.out)
          refine hcall.mono ?_
          clear hcall
          rintro e w9 ⟨rfl, hb9⟩
          have HB9 := Lib.hid (keep HB8.out hb9)
          clear hb9
          go_wp2_with fail
          have hcall := err_no 3 3 true ⟨fun _ => rfl, fun _ => rfl⟩ w9 (HG.out.keep HB9.out)
          refine hcall.mono ?_
          clear hcall
          rintro e w10 ⟨rfl, hb10⟩
          have HB10 := Lib.hid (keep HB9.out hb10)
          clear hb10
          go_wp2_with fail
          have hcall := ints_walk none none 0 0 0 0 (fun _ => 0) (fun _ => 0) w10 (fun j hj => absurd hj (by omega)) (fun j hj => absurd hj (by omega)) (by omega) (by omega) true ⟨fun _ => ⟨rfl, fun _ _ => rfl⟩, fun _ => rfl⟩
          refine hcall.mono ?_
          clear hcall
          rintro e w11 ⟨rfl, k11, hw11⟩
          have HB11 : Hid (Below w.heap.size w w11) := by subst w11; exact below_drewN HB10.out k11
          clear hw11
          go_wp2_with fail
          go_ret
          exact ⟨rfl, HB11.out⟩
      · have hcall := graphFault_bad x A m cp a b c w4 (HL.out.keep HB4.out) hm 5 HF.out
        refine hcall.mono ?_
        clear hcall
        rintro e w5 ⟨rfl, hb5⟩
        have HB5 := Lib.hid (keep HB4.out hb5)
        clear hb5
        go_wp2_with fail
        go_loopw [16, 17] (fun v i wr => v = .int .i64 5 ∧ i = .int .i64 0 ∧ wr = w5) (fun _ _ _ => 0)
        case atStart => exact ⟨rfl, rfl, rfl⟩
        case round =>
          obtain ⟨rfl, rfl, hwr⟩ := hrel
          subst wr
          go_wp2_with fail
          have hcall := bellRound_bad x y A D m cp cd kd a b c d w5 (HL.out.keep HB5.out) (HD.out.keep HB5.out) hm hkd 5 (.inl HF.out)
          refine hcall.mono ?_
          clear hcall
          rintro e w6 ⟨rfl, hb6⟩
          have HB6 := Lib.hid (keep HB5.out hb6)
          clear hb6
          go_wp2_with fail
          have hcall := err_no 5 5 true ⟨fun _ => rfl, fun _ => rfl⟩ w6 (HG.out.keep HB6.out)
          refine hcall.mono ?_
          clear hcall
          rintro e w7 ⟨rfl, hb7⟩
          have HB7 := Lib.hid (keep HB6.out hb7)
          clear hb7
          go_wp2_with fail
          have hcall := ints_walk none none 0 0 0 0 (fun _ => 0) (fun _ => 0) w7 (fun j hj => absurd hj (by omega)) (fun j hj => absurd hj (by omega)) (by omega) (by omega) true ⟨fun _ => ⟨rfl, fun _ _ => rfl⟩, fun _ => rfl⟩
          refine hcall.mono ?_
          clear hcall
          rintro e w8 ⟨rfl, k8, hw8⟩
          have HB8 : Hid (Below w.heap.size w w8) := by subst w8; exact below_drewN HB7.out k8
          clear hw8
          go_wp2_with fail
          have hcall := bellRun_bad x y A m cp a b c w8 (HL.out.keep HB8.out) hm 5 (.inl HF.out)
          refine hcall.mono ?_
          clear hcall
          rintro e w9 ⟨rfl, hb9⟩
          have HB9 := Lib.hid (keep HB8.out hb9)
          clear hb9
          go_wp2_with fail
          have hcall := err_no 5 5 true ⟨fun _ => rfl, fun _ => rfl⟩ w9 (HG.out.keep HB9.out)
          refine hcall.mono ?_
          clear hcall
          rintro e w10 ⟨rfl, hb10⟩
          have HB10 := Lib.hid (keep HB9.out hb10)
          clear hb10
          go_wp2_with fail
          have hcall := ints_walk none none 0 0 0 0 (fun _ => 0) (fun _ => 0) w10 (fun j hj => absurd hj (by omega)) (fun j hj => absurd hj (by omega)) (by omega) (by omega) true ⟨fun _ => ⟨rfl, fun _ _ => rfl⟩, fun _ => rfl⟩
          refine hcall.mono ?_
          clear hcall
          rintro e w11 ⟨rfl, k11, hw11⟩
          have HB11 : Hid (Below w.heap.size w w11) := by subst w11; exact below_drewN HB10.out k11
          clear hw11
          go_wp2_with fail
          go_ret
          exact ⟨rfl, HB11.out⟩
  · have HY : Hid (y < 0 ∨ x ≤ y) := .inr hy
    have HSB : Hid ((x < 1 ∨ 8 < x) ∨ (1 ≤ x ∧ x ≤ 8 ∧ (y < 0 ∨ x ≤ y))) := .inr ⟨hx1, hx8, HY.out⟩
    go_enter Tryd.func5, Tryd.ntmps5
    go_wp2_with fail
    have hcall := rounded_walk w
    refine hcall.mono ?_
    clear hcall
    rintro e w1 ⟨rfl, hb1⟩
    have HB1 := Lib.hid hb1
    clear hb1
    go_wp2_with fail
    have hcall := bellStart_bad x y w1 HSB.out
    refine hcall.mono ?_
    clear hcall
    rintro e w2 ⟨rfl, hb2⟩
    have HB2 := Lib.hid (keep HB1.out hb2)
    clear hb2
    go_wp2_with fail
    have hcall := err_no 1 1 true ⟨fun _ => rfl, fun _ => rfl⟩ w2 (HG.out.keep HB2.out)
    refine hcall.mono ?_
    clear hcall
    rintro e w3 ⟨rfl, hb3⟩
    have HB3 := Lib.hid (keep HB2.out hb3)
    clear hb3
    go_wp2_with fail
    have hcall := ints_walk none none 0 0 0 0 (fun _ => 0) (fun _ => 0) w3 (fun j hj => absurd hj (by omega)) (fun j hj => absurd hj (by omega)) (by omega) (by omega) true ⟨fun _ => ⟨rfl, fun _ _ => rfl⟩, fun _ => rfl⟩
    refine hcall.mono ?_
    clear hcall
    rintro e w4 ⟨rfl, k4, hw4⟩
    have HB4 : Hid (Below w.heap.size w w4) := by subst w4; exact below_drewN HB3.out k4
    clear hw4
    go_wp2_with fail
    rcases graph_cases x m a b c with hgood | ⟨k, hk, hf⟩
    · have HGD := Lib.hid hgood
      clear hgood
      have hcall := graphFault_good x A m cp a b c w4 (HL.out.keep HB4.out) hm HGD.out
      refine hcall.mono ?_
      clear hcall
      rintro e w5 ⟨rfl, hb5⟩
      have HB5 := Lib.hid (keep HB4.out hb5)
      clear hb5
      go_wp2_with fail
      go_loopw [16, 17] (fun v i wr => v = .int .i64 1 ∧ i = .int .i64 0 ∧ wr = w5) (fun _ _ _ => 0)
      case atStart => exact ⟨rfl, rfl, rfl⟩
      case round =>
        obtain ⟨rfl, rfl, hwr⟩ := hrel
        subst wr
        go_wp2_with fail
        have hcall := bellRound_bad x y A D m cp cd kd a b c d w5 (HL.out.keep HB5.out) (HD.out.keep HB5.out) hm hkd 1 (.inr (.inl ⟨HGD.out, HY.out, rfl⟩))
        refine hcall.mono ?_
        clear hcall
        rintro e w6 ⟨rfl, hb6⟩
        have HB6 := Lib.hid (keep HB5.out hb6)
        clear hb6
        go_wp2_with fail
        have hcall := err_no 1 1 true ⟨fun _ => rfl, fun _ => rfl⟩ w6 (HG.out.keep HB6.out)
        refine hcall.mono ?_
        clear hcall
        rintro e w7 ⟨rfl, hb7⟩
        have HB7 := Lib.hid (keep HB6.out hb7)
        clear hb7
        go_wp2_with fail
        have hcall := ints_walk none none 0 0 0 0 (fun _ => 0) (fun _ => 0) w7 (fun j hj => absurd hj (by omega)) (fun j hj => absurd hj (by omega)) (by omega) (by omega) true ⟨fun _ => ⟨rfl, fun _ _ => rfl⟩, fun _ => rfl⟩
        refine hcall.mono ?_
        clear hcall
        rintro e w8 ⟨rfl, k8, hw8⟩
        have HB8 : Hid (Below w.heap.size w w8) := by subst w8; exact below_drewN HB7.out k8
        clear hw8
        go_wp2_with fail
        have hcall := bellRun_bad x y A m cp a b c w8 (HL.out.keep HB8.out) hm 1 (.inr ⟨HGD.out, HY.out, rfl⟩)
        refine hcall.mono ?_
        clear hcall
        rintro e w9 ⟨rfl, hb9⟩
        have HB9 := Lib.hid (keep HB8.out hb9)
        clear hb9
        go_wp2_with fail
        have hcall := err_no 1 1 true ⟨fun _ => rfl, fun _ => rfl⟩ w9 (HG.out.keep HB9.out)
        refine hcall.mono ?_
        clear hcall
        rintro e w10 ⟨rfl, hb10⟩
        have HB10 := Lib.hid (keep HB9.out hb10)
        clear hb10
        go_wp2_with fail
        have hcall := ints_walk none none 0 0 0 0 (fun _ => 0) (fun _ => 0) w10 (fun j hj => absurd hj (by omega)) (fun j hj => absurd hj (by omega)) (by omega) (by omega) true ⟨fun _ => ⟨rfl, fun _ _ => rfl⟩, fun _ => rfl⟩
        refine hcall.mono ?_
        clear hcall
        rintro e w11 ⟨rfl, k11, hw11⟩
        have HB11 : Hid (Below w.heap.size w w11) := by subst w11; exact below_drewN HB10.out k11
        clear hw11
        go_wp2_with fail
        go_ret
        exact ⟨rfl, HB11.out⟩
    · have HF := Lib.hid hf
      clear hf
      rcases hk with rfl | rfl | rfl
      · have hcall := graphFault_bad x A m cp a b c w4 (HL.out.keep HB4.out) hm 1 HF.out
        refine hcall.mono ?_
        clear hcall
        rintro e w5 ⟨rfl, hb5⟩
        have HB5 := Lib.hid (keep HB4.out hb5)
        clear hb5
        go_wp2_with fail
        go_loopw [16, 17] (fun v i wr => v = .int .i64 1 ∧ i = .int .i64 0 ∧ wr = w5) (fun _ _ _ => 0)
        case atStart => exact ⟨rfl, rfl, rfl⟩
        case round =>
          obtain ⟨rfl, rfl, hwr⟩ := hrel
          subst wr
          go_wp2_with fail
          have hcall := bellRound_bad x y A D m cp cd kd a b c d w5 (HL.out.keep HB5.out) (HD.out.keep HB5.out) hm hkd 1 (.inl HF.out)
          refine hcall.mono ?_
          clear hcall
          rintro e w6 ⟨rfl, hb6⟩
          have HB6 := Lib.hid (keep HB5.out hb6)
          clear hb6
          go_wp2_with fail
          have hcall := err_no 1 1 true ⟨fun _ => rfl, fun _ => rfl⟩ w6 (HG.out.keep HB6.out)
          refine hcall.mono ?_
          clear hcall
          rintro e w7 ⟨rfl, hb7⟩
          have HB7 := Lib.hid (keep HB6.out hb7)
          clear hb7
          go_wp2_with fail
          have hcall := ints_walk none none 0 0 0 0 (fun _ => 0) (fun _ => 0) w7 (fun j hj => absurd hj (by omega)) (fun j hj => absurd hj (by omega)) (by omega) (by omega) true ⟨fun _ => ⟨rfl, fun _ _ => rfl⟩, fun _ => rfl⟩
          refine hcall.mono ?_
          clear hcall
          rintro e w8 ⟨rfl, k8, hw8⟩
          have HB8 : Hid (Below w.heap.size w w8) := by subst w8; exact below_drewN HB7.out k8
          clear hw8
          go_wp2_with fail
          have hcall := bellRun_bad x y A m cp a b c w8 (HL.out.keep HB8.out) hm 1 (.inl HF.out)
          refine hcall.mono ?_
          clear hcall
          rintro e w9 ⟨rfl, hb9⟩
          have HB9 := Lib.hid (keep HB8.out hb9)
          clear hb9
          go_wp2_with fail
          have hcall := err_no 1 1 true ⟨fun _ => rfl, fun _ => rfl⟩ w9 (HG.out.keep HB9.out)
          refine hcall.mono ?_
          clear hcall
          rintro e w10 ⟨rfl, hb10⟩
          have HB10 := Lib.hid (keep HB9.out hb10)
          clear hb10
          go_wp2_with fail
          have hcall := ints_walk none none 0 0 0 0 (fun _ => 0) (fun _ => 0) w10 (fun j hj => absurd hj (by omega)) (fun j hj => absurd hj (by omega)) (by omega) (by omega) true ⟨fun _ => ⟨rfl, fun _ _ => rfl⟩, fun _ => rfl⟩
          refine hcall.mono ?_
          clear hcall
          rintro e w11 ⟨rfl, k11, hw11⟩
          have HB11 : Hid (Below w.heap.size w w11) := by subst w11; exact below_drewN HB10.out k11
          clear hw11
          go_wp2_with fail
          go_ret
          exact ⟨rfl, HB11.out⟩
      · have hcall := graphFault_bad x A m cp a b c w4 (HL.out.keep HB4.out) hm 3 HF.out
        refine hcall.mono ?_
        clear hcall
        rintro e w5 ⟨rfl, hb5⟩
        have HB5 := Lib.hid (keep HB4.out hb5)
        clear hb5
        go_wp2_with fail
        go_loopw [16, 17] (fun v i wr => v = .int .i64 3 ∧ i = .int .i64 0 ∧ wr = w5) (fun _ _ _ => 0)
        case atStart => exact ⟨rfl, rfl, rfl⟩
        case round =>
          obtain ⟨rfl, rfl, hwr⟩ := hrel
          subst wr
          go_wp2_with fail
          have hcall := bellRound_bad x y A D m cp cd kd a b c d w5 (HL.out.keep HB5.out) (HD.out.keep HB5.out) hm hkd 3 (.inl HF.out)
          refine hcall.mono ?_
          clear hcall
          rintro e w6 ⟨rfl, hb6⟩
          have HB6 := Lib.hid (keep HB5.out hb6)
          clear hb6
          go_wp2_with fail
          have hcall := err_no 3 3 true ⟨fun _ => rfl, fun _ => rfl⟩ w6 (HG.out.keep HB6.out)
          refine hcall.mono ?_
          clear hcall
          rintro e w7 ⟨rfl, hb7⟩
          have HB7 := Lib.hid (keep HB6.out hb7)
          clear hb7
          go_wp2_with fail
          have hcall := ints_walk none none 0 0 0 0 (fun _ => 0) (fun _ => 0) w7 (fun j hj => absurd hj (by omega)) (fun j hj => absurd hj (by omega)) (by omega) (by omega) true ⟨fun _ => ⟨rfl, fun _ _ => rfl⟩, fun _ => rfl⟩
          refine hcall.mono ?_
          clear hcall
          rintro e w8 ⟨rfl, k8, hw8⟩
          have HB8 : Hid (Below w.heap.size w w8) := by subst w8; exact below_drewN HB7.out k8
          clear hw8
          go_wp2_with fail
          have hcall := bellRun_bad x y A m cp a b c w8 (HL.out.keep HB8.out) hm 3 (.inl HF.out)
          refine hcall.mono ?_
          clear hcall
          rintro e w9 ⟨rfl, hb9⟩
          have HB9 := Lib.hid (keep HB8.out hb9)
          clear hb9
          go_wp2_with fail
          have hcall := err_no 3 3 true ⟨fun _ => rfl, fun _ => rfl⟩ w9 (HG.out.keep HB9.out)
          refine hcall.mono ?_
          clear hcall
          rintro e w10 ⟨rfl, hb10⟩
          have HB10 := Lib.hid (keep HB9.out hb10)
          clear hb10
          go_wp2_with fail
          have hcall := ints_walk none none 0 0 0 0 (fun _ => 0) (fun _ => 0) w10 (fun j hj => absurd hj (by omega)) (fun j hj => absurd hj (by omega)) (by omega) (by omega) true ⟨fun _ => ⟨rfl, fun _ _ => rfl⟩, fun _ => rfl⟩
          refine hcall.mono ?_
          clear hcall
          rintro e w11 ⟨rfl, k11, hw11⟩
          have HB11 : Hid (Below w.heap.size w w11) := by subst w11; exact below_drewN HB10.out k11
          clear hw11
          go_wp2_with fail
          go_ret
          exact ⟨rfl, HB11.out⟩
      · have hcall := graphFault_bad x A m cp a b c w4 (HL.out.keep HB4.out) hm 5 HF.out
        refine hcall.mono ?_
        clear hcall
        rintro e w5 ⟨rfl, hb5⟩
        have HB5 := Lib.hid (keep HB4.out hb5)
        clear hb5
        go_wp2_with fail
        go_loopw [16, 17] (fun v i wr => v = .int .i64 5 ∧ i = .int .i64 0 ∧ wr = w5) (fun _ _ _ => 0)
        case atStart => exact ⟨rfl, rfl, rfl⟩
        case round =>
          obtain ⟨rfl, rfl, hwr⟩ := hrel
          subst wr
          go_wp2_with fail
          have hcall := bellRound_bad x y A D m cp cd kd a b c d w5 (HL.out.keep HB5.out) (HD.out.keep HB5.out) hm hkd 5 (.inl HF.out)
          refine hcall.mono ?_
          clear hcall
          rintro e w6 ⟨rfl, hb6⟩
          have HB6 := Lib.hid (keep HB5.out hb6)
          clear hb6
          go_wp2_with fail
          have hcall := err_no 5 5 true ⟨fun _ => rfl, fun _ => rfl⟩ w6 (HG.out.keep HB6.out)
          refine hcall.mono ?_
          clear hcall
          rintro e w7 ⟨rfl, hb7⟩
          have HB7 := Lib.hid (keep HB6.out hb7)
          clear hb7
          go_wp2_with fail
          have hcall := ints_walk none none 0 0 0 0 (fun _ => 0) (fun _ => 0) w7 (fun j hj => absurd hj (by omega)) (fun j hj => absurd hj (by omega)) (by omega) (by omega) true ⟨fun _ => ⟨rfl, fun _ _ => rfl⟩, fun _ => rfl⟩
          refine hcall.mono ?_
          clear hcall
          rintro e w8 ⟨rfl, k8, hw8⟩
          have HB8 : Hid (Below w.heap.size w w8) := by subst w8; exact below_drewN HB7.out k8
          clear hw8
          go_wp2_with fail
          have hcall := bellRun_bad x y A m cp a b c w8 (HL.out.keep HB8.out) hm 5 (.inl HF.out)
          refine hcall.mono ?_
          clear hcall
          rintro e w9 ⟨rfl, hb9⟩
          have HB9 := Lib.hid (keep HB8.out hb9)
          clear hb9
          go_wp2_with fail
          have hcall := err_no 5 5 true ⟨fun _ => rfl, fun _ => rfl⟩ w9 (HG.out.keep HB9.out)
          refine hcall.mono ?_
          clear hcall
          rintro e w10 ⟨rfl, hb10⟩
          have HB10 := Lib.hid (keep HB9.out hb10)
          clear hb10
          go_wp2_with fail
          have hcall := ints_walk none none 0 0 0 0 (fun _ => 0) (fun _ => 0) w10 (fun j hj => absurd hj (by omega)) (fun j hj => absurd hj (by omega)) (by omega) (by omega) true ⟨fun _ => ⟨rfl, fun _ _ => rfl⟩, fun _ => rfl⟩
          refine hcall.mono ?_
          clear hcall
          rintro e w11 ⟨rfl, k11, hw11⟩
          have HB11 : Hid (Below w.heap.size w w11) := by subst w11; exact below_drewN HB10.out k11
          clear hw11
          go_wp2_with fail
          go_ret
          exact ⟨rfl, HB11.out⟩
  · obtain ⟨n, rfl⟩ : ∃ n : Nat, x = n := ⟨x.toNat, by omega⟩
    obtain ⟨t, rfl⟩ : ∃ t : Nat, y = t := ⟨y.toNat, by omega⟩
    have h1 : 1 ≤ n := by omega
    have h8 : n ≤ 8 := by omega
    have ht : t < n := by omega
    have hdt : decide ((n : Int) ≤ t) = false := decide_eq_false (by omega)
    have hdt' : decide (n ≤ t) = false := decide_eq_false (by omega)
    clear hy0
    go_enter Tryd.func5, Tryd.ntmps5
    go_wp2_with fail
    have hcall := rounded_walk w
    refine hcall.mono ?_
    clear hcall
    rintro e w1 ⟨rfl, hb1⟩
    have HB1 := Lib.hid hb1
    clear hb1
    go_wp2_with fail
    have hcall := startOf_walk n t n t rfl rfl w1 ht (by omega)
    refine hcall.mono ?_
    clear hcall
    rintro e w2 ⟨g2, c2, rfl, -, hr2, hb2⟩
    have HR2 := Lib.hid hr2
    have HB2 := Lib.hid (keep HB1.out hb2)
    clear hr2 hb2
    go_wp2_with fail
    have hcall := bellStart_ok n t n t rfl rfl w2 h1 h8 ht
    refine hcall.mono ?_
    clear hcall
    rintro e w3 ⟨g3, rfl, -, hr3, hb3⟩
    have HR3 := Lib.hid hr3
    have HR23 := Lib.hid (HR2.out.below hb3 HR2.out.lt)
    have HB3 := Lib.hid (keep HB2.out hb3)
    clear hr3 hb3
    go_wp2_with fail
    have hcall := err_nil 0 true ⟨fun _ => rfl, fun _ => rfl⟩ w3
    refine hcall.mono ?_
    clear hcall
    rintro e w4 ⟨rfl, hb4⟩
    have HB4 := Lib.hid (keep HB3.out hb4)
    have HR34 := Lib.hid (HR3.out.below hb4 HR3.out.lt)
    have HR24 := Lib.hid (HR23.out.below hb4 HR23.out.lt)
    clear hb4
    go_wp2_with fail
    have hcall := ints_walk (some ⟨g3, 0, none⟩) (some ⟨g2, 0, none⟩) n n n c2 (startF t) (startF t) w4 HR34.out.vec HR24.out.vec (by omega) (by omega) true ⟨fun _ => ⟨rfl, fun _ _ => rfl⟩, fun _ => rfl⟩
    refine hcall.mono ?_
    clear hcall
    rintro e w5 ⟨rfl, k5, hw5⟩
    have HB5 : Hid (Below w.heap.size w w5) := by subst w5; exact below_drewN HB4.out k5
    clear hw5
    go_wp2_with fail
    rcases graph_cases n m a b c with hgood | ⟨k, hk, hf⟩
    · have hRR : Right n m a b c := by simpa using hgood.2.2
      have HR := Lib.hid hRR
      have HGD := Lib.hid hgood
      clear hgood hRR
      by_cases hkn : kd = n
      · subst hkn
        have hkb : ((kd : Int) == kd) = true := by simp
        have hkb' : (kd == kd) = true := by simp
        have hkb2 : ((kd : Int) != kd) = false := by simp
        have hkb3 : (kd != kd) = false := by simp
        have hcall := graphFault_good kd A m cp a b c w5 (HL.out.keep HB5.out) hm HGD.out
        refine hcall.mono ?_
        clear hcall
        rintro e w6 ⟨rfl, hb6⟩
        have HB6 := Lib.hid (keep HB5.out hb6)
        clear hb6
        go_wp2_with fail
        rcases ranged_or kd d with hR | ⟨i0, hi0, hR0, hbad⟩
        · have HV := Lib.hid hR
          clear hR
          go_loopw [16, 17] (fun v i wr => ∃ q : Nat, q ≤ kd ∧ v = .int .i64 0 ∧ i = .int .i64 q ∧ wr = w6) (fun _ i _ => kd - (intOf i).toNat)
          case atStart => exact ⟨0, by omega, rfl, rfl, rfl⟩
          case round =>
            obtain ⟨q, hq, rfl, rfl, hwr⟩ := hrel
            subst wr
            by_cases hlt : q < kd
            · have hlt' : (q : Int) < kd := by omega
              obtain ⟨ad, rfl, hadb, hc0⟩ := (HD.out.keep HB6.out) q hlt
              obtain ⟨u, hu⟩ : ∃ u, d q = u := ⟨_, rfl⟩
              have hur := HV.out q hlt
              rw [hu] at hc0 hur
              obtain ⟨hu0, hu1⟩ := hur
              clear hu
              go_wp2_with fail
              refine (far_no u w6 hu0 hu1).mono ?_
              rintro e w7 ⟨rfl, h7⟩
              subst w7
              go_wp2_with fail
              go_roundw
              case rel => exact ⟨q + 1, by omega, rfl, by go_num, trivial⟩
              case measure => simp [intOf]; omega
            · obtain rfl : kd = q := by omega
              clear hlt hq
              go_wp2_with fail
              have hcall := roundOf_walk kd t kd t rfl rfl A D m cp cd a b c d w6 (HL.out.keep HB6.out) (HD.out.keep HB6.out) hm h1 h8 HR.out HV.out ht
              refine hcall.mono ?_
              clear hcall
              rintro e w7 ⟨g7, c7, rfl, -, hr7, hb7⟩
              have HR7 := Lib.hid hr7
              have HB7 := Lib.hid (keep HB6.out hb7)
              clear hr7 hb7
              go_wp2_with fail
              have hcall := bellRound_good kd t A D m cp cd kd a b c d w7 (HL.out.keep HB7.out) (HD.out.keep HB7.out) hm ⟨HGD.out, by omega, by omega, rfl, HV.out⟩
              refine hcall.mono ?_
              clear hcall
              rintro e w8 ⟨g8, rfl, -, hr8, hb8⟩
              have HR8 := Lib.hid hr8
              have HR78 := Lib.hid (HR7.out.below hb8 HR7.out.lt)
              have HB8 := Lib.hid (keep HB7.out hb8)
              clear hr8 hb8
              go_wp2_with fail
              have hcall := err_nil 0 true ⟨fun _ => rfl, fun _ => rfl⟩ w8
              refine hcall.mono ?_
              clear hcall
              rintro e w9 ⟨rfl, hb9⟩
              have HB9 := Lib.hid (keep HB8.out hb9)
              have HR89 := Lib.hid (HR8.out.below hb9 HR8.out.lt)
              have HR79 := Lib.hid (HR78.out.below hb9 HR78.out.lt)
              clear hb9
              go_wp2_with fail
              have hcall := ints_walk (some ⟨g8, 0, none⟩) (some ⟨g7, 0, none⟩) kd kd kd c7 (roundTo (t : Int).toNat a b c d m) (roundTo t a b c d m) w9 HR89.out.vec HR79.out.vec (by omega) (by omega) true ⟨fun _ => ⟨rfl, fun _ _ => rfl⟩, fun _ => rfl⟩
              refine hcall.mono ?_
              clear hcall
              rintro e w10 ⟨rfl, k10, hw10⟩
              have HB10 : Hid (Below w.heap.size w w10) := by subst w10; exact below_drewN HB9.out k10
              clear hw10
              go_wp2_with fail
              have hcall := farOf_walk kd t kd t rfl rfl A m cp a b c w10 (HL.out.keep HB10.out) hm h1 h8 HR.out ht
              refine hcall.mono ?_
              clear hcall
              rintro e w20 ⟨g20, c20, rfl, hg20, hr20, hb20⟩
              have HR20 := Lib.hid hr20
              have HB20 := Lib.hid (keep HB10.out hb20)
              clear hr20 hb20 hg20
              go_wp2_with fail
              have hcall := startOf_walk kd t kd t rfl rfl w20 ht (by omega)
              refine hcall.mono ?_
              clear hcall
              rintro e w21 ⟨g21, c21, rfl, hg21, hr21, hb21⟩
              have HR21 := Lib.hid hr21
              have HR201 := Lib.hid (HR20.out.below hb21 HR20.out.lt)
              have HB21 := Lib.hid (keep HB20.out hb21)
              clear hr21 hb21 hg21
              go_wp2_with fail
              go_loopw [23, 24] (fun u v wr => ∃ r : Nat, r < kd ∧ u = .int .i64 r ∧ (∃ g cg, v = .slice (some ⟨g, 0, none⟩) kd cg ∧ RowP wr g 3 kd (fun i => .int .i64 (rounds t a b c m (startF t) r i))) ∧ RowP wr g20 3 kd (fun i => .int .i64 (endF t a b c m i)) ∧ Below w.heap.size w wr ∧ Hid (∀ j, j < r → ¬ ∀ i, i < kd → rounds t a b c m (startF t) j i = endF t a b c m i)) (fun u _ _ => kd - (intOf u).toNat)
              case atStart => exact ⟨0, by omega, rfl, ⟨g21, c21, rfl, HR21.out⟩, HR201.out, HB21.out, Lib.hid fun j hj => absurd hj (by omega)⟩
              case round =>
                obtain ⟨r, hrn, rfl, ⟨g, cg, rfl, hrow⟩, hend, hb, hno⟩ := hrel
                have HNO := hno
                clear hno HR20 HR21 HR201
                have HROW := Lib.hid hrow
                have HEND := Lib.hid hend
                have HBr := Lib.hid hb
                clear hrow hend hb
                have hr20 : r < 20 := by omega
                have hr20' : (r : Int) < 20 := by omega
                by_cases hsame : ∀ i, i < kd → rounds t a b c m (startF t) r i = endF t a b c m i
                · have HS := Lib.hid hsame
                  clear hsame
                  go_wp2_with fail
                  have hcall := ints_walk (some ⟨g, 0, none⟩) (some ⟨g20, 0, none⟩) kd kd cg c20 (rounds t a b c m (startF t) r) (endF t a b c m) wr HROW.out.vec HEND.out.vec (by omega) (by omega) true ⟨fun _ => ⟨rfl, HS.out⟩, fun _ => rfl⟩
                  refine hcall.mono ?_
                  clear hcall
                  rintro e w22 ⟨rfl, k22, hw22⟩
                  have HB22 : Hid (Below w.heap.size w w22) := by subst w22; exact below_drewN HBr.out k22
                  have HE22 : Hid (RowP w22 g20 3 kd (fun i => .int .i64 (endF t a b c m i))) := by subst w22; exact HEND.out.drewN k22
                  clear hw22
                  go_wp2_with fail
                  have hcall := bellRun_ok kd t kd t rfl rfl A m cp a b c w22 (HL.out.keep HB22.out) hm HGD.out ht
                  refine hcall.mono ?_
                  clear hcall
                  rintro e w23 ⟨g23, k, rfl, -, hr23, htk, hb23⟩
                  obtain rfl : k = r := takes_only htk HS.out HNO.out HR.out
                  have HR23 := Lib.hid hr23
                  have HE23 := Lib.hid (HE22.out.below hb23 HE22.out.lt)
                  have HB23 := Lib.hid (keep HB22.out hb23)
                  clear hr23 hb23 htk
                  go_wp2_with fail
                  refine (err_nil 0 true ⟨fun _ => rfl, fun _ => rfl⟩ w23).mono ?_
                  rintro e w24 ⟨rfl, hb24⟩
                  have HR24 := Lib.hid (HR23.out.below hb24 HR23.out.lt)
                  have HE24 := Lib.hid (HE23.out.below hb24 HE23.out.lt)
                  have HB24 := Lib.hid (keep HB23.out hb24)
                  clear hb24
                  go_wp2_with fail
                  have hcall := ints_walk (some ⟨g23, 0, none⟩) (some ⟨g20, 0, none⟩) kd kd kd c20 (endF t a b c m) (endF t a b c m) w24 HR24.out.vec HE24.out.vec (by omega) (by omega) true ⟨fun _ => ⟨rfl, fun _ _ => rfl⟩, fun _ => rfl⟩
                  refine hcall.mono ?_
                  clear hcall
                  rintro e w25 ⟨rfl, k25, hw25⟩
                  have HB25 : Hid (Below w.heap.size w w25) := by subst w25; exact below_drewN HB24.out k25
                  clear hw25
                  go_wp2_with fail
                  go_ret
                  exact ⟨rfl, HB25.out⟩
                · have HS := Lib.hid hsame
                  have hrn1 : r + 1 < kd := by
                    rcases Nat.lt_or_ge (r + 1) kd with h | h
                    · exact h
                    · exact absurd (end_fewer HR.out ht h) hsame
                  clear hsame
                  go_wp2_with fail
                  have hcall := ints_walk (some ⟨g, 0, none⟩) (some ⟨g20, 0, none⟩) kd kd cg c20 (rounds t a b c m (startF t) r) (endF t a b c m) wr HROW.out.vec HEND.out.vec (by omega) (by omega) false ⟨(fun h => by cases h), fun h => absurd h.2 HS.out⟩
                  refine hcall.mono ?_
                  clear hcall
                  rintro e w22 ⟨rfl, k22, hw22⟩
                  have HB22 : Hid (Below w.heap.size w w22) := by subst w22; exact below_drewN HBr.out k22
                  have HE22 : Hid (RowP w22 g20 3 kd (fun i => .int .i64 (endF t a b c m i))) := by subst w22; exact HEND.out.drewN k22
                  have HRO22 : Hid (RowP w22 g 3 kd (fun i => .int .i64 (rounds t a b c m (startF t) r i))) := by subst w22; exact HROW.out.drewN k22
                  clear hw22
                  go_wp2_with fail
                  have hcall := roundOf_walk kd t kd t rfl rfl A (some ⟨g, 0, none⟩) m cp cg a b c (rounds t a b c m (startF t) r) w22 (HL.out.keep HB22.out) HRO22.out.vec hm h1 h8 HR.out (rounds_ranged HR.out (startF_ranged t kd) r) ht
                  refine hcall.mono ?_
                  clear hcall
                  rintro e w23 ⟨g23, c23, rfl, -, hr23, hb23⟩
                  have HR23 := Lib.hid hr23
                  have HE23 := Lib.hid (HE22.out.below hb23 HE22.out.lt)
                  have HB23 := Lib.hid (keep HB22.out hb23)
                  have HNO1 : Hid (∀ j, j < r + 1 → ¬ ∀ i, i < kd → rounds t a b c m (startF t) j i = endF t a b c m i) := fun j hj => by
                    rcases Nat.lt_or_ge j r with h | h
                    · exact HNO.out j h
                    · obtain rfl : j = r := by omega
                      exact HS.out
                  clear hr23 hb23
                  go_wp2_with fail
                  go_roundw
                  case rel => exact ⟨r + 1, hrn1, by go_num, ⟨g23, c23, rfl, HR23.out⟩, HE23.out, HB23.out, HNO1⟩
                  case measure => simp [intOf]; omega
        · have HFR : Hid (FaultR kd m a b c t kd d 1) := .inr (.inr (.inr ⟨HGD.out, by omega, by omega, rfl, (fun h => by have := h i0 hi0; omega), rfl⟩))
          have HV := Lib.hid hR0
          have HBAD := Lib.hid hbad
          clear hR0 hbad
          go_loopw [16, 17] (fun v i wr => ∃ q : Nat, ((q ≤ i0 ∧ v = .int .i64 0) ∨ (q = i0 + 1 ∧ v = .int .i64 1)) ∧ i = .int .i64 q ∧ wr = w6) (fun _ i _ => i0 + 1 - (intOf i).toNat)
          case atStart => exact ⟨0, .inl ⟨by omega, rfl⟩, rfl, rfl⟩
          case round =>
            obtain ⟨q, hqv, rfl, hwr⟩ := hrel
            subst wr
            rcases hqv with ⟨hq, rfl⟩ | ⟨hq, rfl⟩
            · have hlt : q < kd := by omega
              have hlt' : (q : Int) < kd := by omega
              obtain ⟨ad, rfl, hadb, hc0⟩ := (HD.out.keep HB6.out) q hlt
              obtain ⟨u, hu⟩ : ∃ u, d q = u := ⟨_, rfl⟩
              have HU := Lib.hid hu
              rw [hu] at hc0
              clear hu
              by_cases hqi : q < i0
              · have hur := HV.out q hqi
                rw [HU.out] at hur
                obtain ⟨hu0, hu1⟩ := hur
                go_wp2_with fail
                refine (far_no u w6 hu0 hu1).mono ?_
                rintro e w7 ⟨rfl, h7⟩
                subst w7
                go_wp2_with fail
                go_roundw
                case rel => exact ⟨q + 1, .inl ⟨by omega, rfl⟩, by go_num, trivial⟩
                case measure => simp [intOf]; omega
              · obtain rfl : i0 = q := by omega
                have hub := HBAD.out
                rw [HU.out] at hub
                have HUB := Lib.hid hub
                clear hub hqi
                go_wp2_with fail
                refine (far_yes u w6 HUB.out).mono ?_
                rintro e w7 ⟨rfl, h7⟩
                subst w7
                go_wp2_with fail
                go_roundw
                case rel => exact ⟨i0 + 1, .inr ⟨rfl, rfl⟩, by go_num, trivial⟩
                case measure => simp [intOf]
            · subst hq
              go_wp2_with fail
              have hcall := bellRound_bad kd t A D m cp cd kd a b c d w6 (HL.out.keep HB6.out) (HD.out.keep HB6.out) hm hkd 1 HFR.out
              refine hcall.mono ?_
              clear hcall
              rintro e w7 ⟨rfl, hb7⟩
              have HB7 := Lib.hid (keep HB6.out hb7)
              clear hb7
              go_wp2_with fail
              have hcall := err_no 1 1 true ⟨fun _ => rfl, fun _ => rfl⟩ w7 (HG.out.keep HB7.out)
              refine hcall.mono ?_
              clear hcall
              rintro e w8 ⟨rfl, hb8⟩
              have HB8 := Lib.hid (keep HB7.out hb8)
              clear hb8
              go_wp2_with fail
              have hcall := ints_walk none none 0 0 0 0 (fun _ => 0) (fun _ => 0) w8 (fun j hj => absurd hj (by omega)) (fun j hj => absurd hj (by omega)) (by omega) (by omega) true ⟨fun _ => ⟨rfl, fun _ _ => rfl⟩, fun _ => rfl⟩
              refine hcall.mono ?_
              clear hcall
              rintro e w9 ⟨rfl, k9, hw9⟩
              have HB9 : Hid (Below w.heap.size w w9) := by subst w9; exact below_drewN HB8.out k9
              clear hw9
              go_wp2_with fail
              have hcall := farOf_walk kd t kd t rfl rfl A m cp a b c w9 (HL.out.keep HB9.out) hm h1 h8 HR.out ht
              refine hcall.mono ?_
              clear hcall
              rintro e w20 ⟨g20, c20, rfl, hg20, hr20, hb20⟩
              have HR20 := Lib.hid hr20
              have HB20 := Lib.hid (keep HB9.out hb20)
              clear hr20 hb20 hg20
              go_wp2_with fail
              have hcall := startOf_walk kd t kd t rfl rfl w20 ht (by omega)
              refine hcall.mono ?_
              clear hcall
              rintro e w21 ⟨g21, c21, rfl, hg21, hr21, hb21⟩
              have HR21 := Lib.hid hr21
              have HR201 := Lib.hid (HR20.out.below hb21 HR20.out.lt)
              have HB21 := Lib.hid (keep HB20.out hb21)
              clear hr21 hb21 hg21
              go_wp2_with fail
              go_loopw [23, 24] (fun u v wr => ∃ r : Nat, r < kd ∧ u = .int .i64 r ∧ (∃ g cg, v = .slice (some ⟨g, 0, none⟩) kd cg ∧ RowP wr g 3 kd (fun i => .int .i64 (rounds t a b c m (startF t) r i))) ∧ RowP wr g20 3 kd (fun i => .int .i64 (endF t a b c m i)) ∧ Below w.heap.size w wr ∧ Hid (∀ j, j < r → ¬ ∀ i, i < kd → rounds t a b c m (startF t) j i = endF t a b c m i)) (fun u _ _ => kd - (intOf u).toNat)
              case atStart => exact ⟨0, by omega, rfl, ⟨g21, c21, rfl, HR21.out⟩, HR201.out, HB21.out, Lib.hid fun j hj => absurd hj (by omega)⟩
              case round =>
                obtain ⟨r, hrn, rfl, ⟨g, cg, rfl, hrow⟩, hend, hb, hno⟩ := hrel
                have HNO := hno
                clear hno HR20 HR21 HR201
                have HROW := Lib.hid hrow
                have HEND := Lib.hid hend
                have HBr := Lib.hid hb
                clear hrow hend hb
                have hr20 : r < 20 := by omega
                have hr20' : (r : Int) < 20 := by omega
                by_cases hsame : ∀ i, i < kd → rounds t a b c m (startF t) r i = endF t a b c m i
                · have HS := Lib.hid hsame
                  clear hsame
                  go_wp2_with fail
                  have hcall := ints_walk (some ⟨g, 0, none⟩) (some ⟨g20, 0, none⟩) kd kd cg c20 (rounds t a b c m (startF t) r) (endF t a b c m) wr HROW.out.vec HEND.out.vec (by omega) (by omega) true ⟨fun _ => ⟨rfl, HS.out⟩, fun _ => rfl⟩
                  refine hcall.mono ?_
                  clear hcall
                  rintro e w22 ⟨rfl, k22, hw22⟩
                  have HB22 : Hid (Below w.heap.size w w22) := by subst w22; exact below_drewN HBr.out k22
                  have HE22 : Hid (RowP w22 g20 3 kd (fun i => .int .i64 (endF t a b c m i))) := by subst w22; exact HEND.out.drewN k22
                  clear hw22
                  go_wp2_with fail
                  have hcall := bellRun_ok kd t kd t rfl rfl A m cp a b c w22 (HL.out.keep HB22.out) hm HGD.out ht
                  refine hcall.mono ?_
                  clear hcall
                  rintro e w23 ⟨g23, k, rfl, -, hr23, htk, hb23⟩
                  obtain rfl : k = r := takes_only htk HS.out HNO.out HR.out
                  have HR23 := Lib.hid hr23
                  have HE23 := Lib.hid (HE22.out.below hb23 HE22.out.lt)
                  have HB23 := Lib.hid (keep HB22.out hb23)
                  clear hr23 hb23 htk
                  go_wp2_with fail
                  refine (err_nil 0 true ⟨fun _ => rfl, fun _ => rfl⟩ w23).mono ?_
                  rintro e w24 ⟨rfl, hb24⟩
                  have HR24 := Lib.hid (HR23.out.below hb24 HR23.out.lt)
                  have HE24 := Lib.hid (HE23.out.below hb24 HE23.out.lt)
                  have HB24 := Lib.hid (keep HB23.out hb24)
                  clear hb24
                  go_wp2_with fail
                  have hcall := ints_walk (some ⟨g23, 0, none⟩) (some ⟨g20, 0, none⟩) kd kd kd c20 (endF t a b c m) (endF t a b c m) w24 HR24.out.vec HE24.out.vec (by omega) (by omega) true ⟨fun _ => ⟨rfl, fun _ _ => rfl⟩, fun _ => rfl⟩
                  refine hcall.mono ?_
                  clear hcall
                  rintro e w25 ⟨rfl, k25, hw25⟩
                  have HB25 : Hid (Below w.heap.size w w25) := by subst w25; exact below_drewN HB24.out k25
                  clear hw25
                  go_wp2_with fail
                  go_ret
                  exact ⟨rfl, HB25.out⟩
                · have HS := Lib.hid hsame
                  have hrn1 : r + 1 < kd := by
                    rcases Nat.lt_or_ge (r + 1) kd with h | h
                    · exact h
                    · exact absurd (end_fewer HR.out ht h) hsame
                  clear hsame
                  go_wp2_with fail
                  have hcall := ints_walk (some ⟨g, 0, none⟩) (some ⟨g20, 0, none⟩) kd kd cg c20 (rounds t a b c m (startF t) r) (endF t a b c m) wr HROW.out.vec HEND.out.vec (by omega) (by omega) false ⟨(fun h => by cases h), fun h => absurd h.2 HS.out⟩
                  refine hcall.mono ?_
                  clear hcall
                  rintro e w22 ⟨rfl, k22, hw22⟩
                  have HB22 : Hid (Below w.heap.size w w22) := by subst w22; exact below_drewN HBr.out k22
                  have HE22 : Hid (RowP w22 g20 3 kd (fun i => .int .i64 (endF t a b c m i))) := by subst w22; exact HEND.out.drewN k22
                  have HRO22 : Hid (RowP w22 g 3 kd (fun i => .int .i64 (rounds t a b c m (startF t) r i))) := by subst w22; exact HROW.out.drewN k22
                  clear hw22
                  go_wp2_with fail
                  have hcall := roundOf_walk kd t kd t rfl rfl A (some ⟨g, 0, none⟩) m cp cg a b c (rounds t a b c m (startF t) r) w22 (HL.out.keep HB22.out) HRO22.out.vec hm h1 h8 HR.out (rounds_ranged HR.out (startF_ranged t kd) r) ht
                  refine hcall.mono ?_
                  clear hcall
                  rintro e w23 ⟨g23, c23, rfl, -, hr23, hb23⟩
                  have HR23 := Lib.hid hr23
                  have HE23 := Lib.hid (HE22.out.below hb23 HE22.out.lt)
                  have HB23 := Lib.hid (keep HB22.out hb23)
                  have HNO1 : Hid (∀ j, j < r + 1 → ¬ ∀ i, i < kd → rounds t a b c m (startF t) j i = endF t a b c m i) := fun j hj => by
                    rcases Nat.lt_or_ge j r with h | h
                    · exact HNO.out j h
                    · obtain rfl : j = r := by omega
                      exact HS.out
                  clear hr23 hb23
                  go_wp2_with fail
                  go_roundw
                  case rel => exact ⟨r + 1, hrn1, by go_num, ⟨g23, c23, rfl, HR23.out⟩, HE23.out, HB23.out, HNO1⟩
                  case measure => simp [intOf]; omega
      · have hkb : ((kd : Int) == n) = false := beq_false_of_ne (by omega)
        have hkb' : (kd == n) = false := beq_false_of_ne hkn
        have hkb2 : ((kd : Int) != n) = true := by simp; omega
        have hkb3 : (kd != n) = true := by simp; omega
        have HFR : Hid (FaultR n m a b c t kd d 3) := .inr (.inr (.inl ⟨HGD.out, by omega, by omega, by omega, rfl⟩))
        clear hkn
        have hcall := graphFault_good n A m cp a b c w5 (HL.out.keep HB5.out) hm HGD.out
        refine hcall.mono ?_
        clear hcall
        rintro e w6 ⟨rfl, hb6⟩
        have HB6 := Lib.hid (keep HB5.out hb6)
        clear hb6
        go_wp2_with fail
        go_loopw [16, 17] (fun v i wr => v = .int .i64 3 ∧ i = .int .i64 0 ∧ wr = w6) (fun _ _ _ => 0)
        case atStart => exact ⟨rfl, rfl, rfl⟩
        case round =>
          obtain ⟨rfl, rfl, hwr⟩ := hrel
          subst wr
          go_wp2_with fail
          have hcall := bellRound_bad n t A D m cp cd kd a b c d w6 (HL.out.keep HB6.out) (HD.out.keep HB6.out) hm hkd 3 HFR.out
          refine hcall.mono ?_
          clear hcall
          rintro e w7 ⟨rfl, hb7⟩
          have HB7 := Lib.hid (keep HB6.out hb7)
          clear hb7
          go_wp2_with fail
          have hcall := err_no 3 3 true ⟨fun _ => rfl, fun _ => rfl⟩ w7 (HG.out.keep HB7.out)
          refine hcall.mono ?_
          clear hcall
          rintro e w8 ⟨rfl, hb8⟩
          have HB8 := Lib.hid (keep HB7.out hb8)
          clear hb8
          go_wp2_with fail
          have hcall := ints_walk none none 0 0 0 0 (fun _ => 0) (fun _ => 0) w8 (fun j hj => absurd hj (by omega)) (fun j hj => absurd hj (by omega)) (by omega) (by omega) true ⟨fun _ => ⟨rfl, fun _ _ => rfl⟩, fun _ => rfl⟩
          refine hcall.mono ?_
          clear hcall
          rintro e w9 ⟨rfl, k9, hw9⟩
          have HB9 : Hid (Below w.heap.size w w9) := by subst w9; exact below_drewN HB8.out k9
          clear hw9
          go_wp2_with fail
          have hcall := farOf_walk n t n t rfl rfl A m cp a b c w9 (HL.out.keep HB9.out) hm h1 h8 HR.out ht
          refine hcall.mono ?_
          clear hcall
          rintro e w20 ⟨g20, c20, rfl, hg20, hr20, hb20⟩
          have HR20 := Lib.hid hr20
          have HB20 := Lib.hid (keep HB9.out hb20)
          clear hr20 hb20 hg20
          go_wp2_with fail
          have hcall := startOf_walk n t n t rfl rfl w20 ht (by omega)
          refine hcall.mono ?_
          clear hcall
          rintro e w21 ⟨g21, c21, rfl, hg21, hr21, hb21⟩
          have HR21 := Lib.hid hr21
          have HR201 := Lib.hid (HR20.out.below hb21 HR20.out.lt)
          have HB21 := Lib.hid (keep HB20.out hb21)
          clear hr21 hb21 hg21
          go_wp2_with fail
          go_loopw [23, 24] (fun u v wr => ∃ r : Nat, r < n ∧ u = .int .i64 r ∧ (∃ g cg, v = .slice (some ⟨g, 0, none⟩) n cg ∧ RowP wr g 3 n (fun i => .int .i64 (rounds t a b c m (startF t) r i))) ∧ RowP wr g20 3 n (fun i => .int .i64 (endF t a b c m i)) ∧ Below w.heap.size w wr ∧ Hid (∀ j, j < r → ¬ ∀ i, i < n → rounds t a b c m (startF t) j i = endF t a b c m i)) (fun u _ _ => n - (intOf u).toNat)
          case atStart => exact ⟨0, by omega, rfl, ⟨g21, c21, rfl, HR21.out⟩, HR201.out, HB21.out, Lib.hid fun j hj => absurd hj (by omega)⟩
          case round =>
            obtain ⟨r, hrn, rfl, ⟨g, cg, rfl, hrow⟩, hend, hb, hno⟩ := hrel
            have HNO := hno
            clear hno HR20 HR21 HR201
            have HROW := Lib.hid hrow
            have HEND := Lib.hid hend
            have HBr := Lib.hid hb
            clear hrow hend hb
            have hr20 : r < 20 := by omega
            have hr20' : (r : Int) < 20 := by omega
            by_cases hsame : ∀ i, i < n → rounds t a b c m (startF t) r i = endF t a b c m i
            · have HS := Lib.hid hsame
              clear hsame
              go_wp2_with fail
              have hcall := ints_walk (some ⟨g, 0, none⟩) (some ⟨g20, 0, none⟩) n n cg c20 (rounds t a b c m (startF t) r) (endF t a b c m) wr HROW.out.vec HEND.out.vec (by omega) (by omega) true ⟨fun _ => ⟨rfl, HS.out⟩, fun _ => rfl⟩
              refine hcall.mono ?_
              clear hcall
              rintro e w22 ⟨rfl, k22, hw22⟩
              have HB22 : Hid (Below w.heap.size w w22) := by subst w22; exact below_drewN HBr.out k22
              have HE22 : Hid (RowP w22 g20 3 n (fun i => .int .i64 (endF t a b c m i))) := by subst w22; exact HEND.out.drewN k22
              clear hw22
              go_wp2_with fail
              have hcall := bellRun_ok n t n t rfl rfl A m cp a b c w22 (HL.out.keep HB22.out) hm HGD.out ht
              refine hcall.mono ?_
              clear hcall
              rintro e w23 ⟨g23, k, rfl, -, hr23, htk, hb23⟩
              obtain rfl : k = r := takes_only htk HS.out HNO.out HR.out
              have HR23 := Lib.hid hr23
              have HE23 := Lib.hid (HE22.out.below hb23 HE22.out.lt)
              have HB23 := Lib.hid (keep HB22.out hb23)
              clear hr23 hb23 htk
              go_wp2_with fail
              refine (err_nil 0 true ⟨fun _ => rfl, fun _ => rfl⟩ w23).mono ?_
              rintro e w24 ⟨rfl, hb24⟩
              have HR24 := Lib.hid (HR23.out.below hb24 HR23.out.lt)
              have HE24 := Lib.hid (HE23.out.below hb24 HE23.out.lt)
              have HB24 := Lib.hid (keep HB23.out hb24)
              clear hb24
              go_wp2_with fail
              have hcall := ints_walk (some ⟨g23, 0, none⟩) (some ⟨g20, 0, none⟩) n n n c20 (endF t a b c m) (endF t a b c m) w24 HR24.out.vec HE24.out.vec (by omega) (by omega) true ⟨fun _ => ⟨rfl, fun _ _ => rfl⟩, fun _ => rfl⟩
              refine hcall.mono ?_
              clear hcall
              rintro e w25 ⟨rfl, k25, hw25⟩
              have HB25 : Hid (Below w.heap.size w w25) := by subst w25; exact below_drewN HB24.out k25
              clear hw25
              go_wp2_with fail
              go_ret
              exact ⟨rfl, HB25.out⟩
            · have HS := Lib.hid hsame
              have hrn1 : r + 1 < n := by
                rcases Nat.lt_or_ge (r + 1) n with h | h
                · exact h
                · exact absurd (end_fewer HR.out ht h) hsame
              clear hsame
              go_wp2_with fail
              have hcall := ints_walk (some ⟨g, 0, none⟩) (some ⟨g20, 0, none⟩) n n cg c20 (rounds t a b c m (startF t) r) (endF t a b c m) wr HROW.out.vec HEND.out.vec (by omega) (by omega) false ⟨(fun h => by cases h), fun h => absurd h.2 HS.out⟩
              refine hcall.mono ?_
              clear hcall
              rintro e w22 ⟨rfl, k22, hw22⟩
              have HB22 : Hid (Below w.heap.size w w22) := by subst w22; exact below_drewN HBr.out k22
              have HE22 : Hid (RowP w22 g20 3 n (fun i => .int .i64 (endF t a b c m i))) := by subst w22; exact HEND.out.drewN k22
              have HRO22 : Hid (RowP w22 g 3 n (fun i => .int .i64 (rounds t a b c m (startF t) r i))) := by subst w22; exact HROW.out.drewN k22
              clear hw22
              go_wp2_with fail
              have hcall := roundOf_walk n t n t rfl rfl A (some ⟨g, 0, none⟩) m cp cg a b c (rounds t a b c m (startF t) r) w22 (HL.out.keep HB22.out) HRO22.out.vec hm h1 h8 HR.out (rounds_ranged HR.out (startF_ranged t n) r) ht
              refine hcall.mono ?_
              clear hcall
              rintro e w23 ⟨g23, c23, rfl, -, hr23, hb23⟩
              have HR23 := Lib.hid hr23
              have HE23 := Lib.hid (HE22.out.below hb23 HE22.out.lt)
              have HB23 := Lib.hid (keep HB22.out hb23)
              have HNO1 : Hid (∀ j, j < r + 1 → ¬ ∀ i, i < n → rounds t a b c m (startF t) j i = endF t a b c m i) := fun j hj => by
                rcases Nat.lt_or_ge j r with h | h
                · exact HNO.out j h
                · obtain rfl : j = r := by omega
                  exact HS.out
              clear hr23 hb23
              go_wp2_with fail
              go_roundw
              case rel => exact ⟨r + 1, hrn1, by go_num, ⟨g23, c23, rfl, HR23.out⟩, HE23.out, HB23.out, HNO1⟩
              case measure => simp [intOf]; omega
    · have HF := Lib.hid hf
      clear hf
      rcases hk with rfl | rfl | rfl
      · have hcall := graphFault_bad n A m cp a b c w5 (HL.out.keep HB5.out) hm 1 HF.out
        refine hcall.mono ?_
        clear hcall
        rintro e w6 ⟨rfl, hb6⟩
        have HB6 := Lib.hid (keep HB5.out hb6)
        clear hb6
        go_wp2_with fail
        go_loopw [16, 17] (fun v i wr => v = .int .i64 1 ∧ i = .int .i64 0 ∧ wr = w6) (fun _ _ _ => 0)
        case atStart => exact ⟨rfl, rfl, rfl⟩
        case round =>
          obtain ⟨rfl, rfl, hwr⟩ := hrel
          subst wr
          go_wp2_with fail
          have hcall := bellRound_bad n t A D m cp cd kd a b c d w6 (HL.out.keep HB6.out) (HD.out.keep HB6.out) hm hkd 1 (.inl HF.out)
          refine hcall.mono ?_
          clear hcall
          rintro e w7 ⟨rfl, hb7⟩
          have HB7 := Lib.hid (keep HB6.out hb7)
          clear hb7
          go_wp2_with fail
          have hcall := err_no 1 1 true ⟨fun _ => rfl, fun _ => rfl⟩ w7 (HG.out.keep HB7.out)
          refine hcall.mono ?_
          clear hcall
          rintro e w8 ⟨rfl, hb8⟩
          have HB8 := Lib.hid (keep HB7.out hb8)
          clear hb8
          go_wp2_with fail
          have hcall := ints_walk none none 0 0 0 0 (fun _ => 0) (fun _ => 0) w8 (fun j hj => absurd hj (by omega)) (fun j hj => absurd hj (by omega)) (by omega) (by omega) true ⟨fun _ => ⟨rfl, fun _ _ => rfl⟩, fun _ => rfl⟩
          refine hcall.mono ?_
          clear hcall
          rintro e w9 ⟨rfl, k9, hw9⟩
          have HB9 : Hid (Below w.heap.size w w9) := by subst w9; exact below_drewN HB8.out k9
          clear hw9
          go_wp2_with fail
          have hcall := bellRun_bad n t A m cp a b c w9 (HL.out.keep HB9.out) hm 1 (.inl HF.out)
          refine hcall.mono ?_
          clear hcall
          rintro e w10 ⟨rfl, hb10⟩
          have HB10 := Lib.hid (keep HB9.out hb10)
          clear hb10
          go_wp2_with fail
          have hcall := err_no 1 1 true ⟨fun _ => rfl, fun _ => rfl⟩ w10 (HG.out.keep HB10.out)
          refine hcall.mono ?_
          clear hcall
          rintro e w11 ⟨rfl, hb11⟩
          have HB11 := Lib.hid (keep HB10.out hb11)
          clear hb11
          go_wp2_with fail
          have hcall := ints_walk none none 0 0 0 0 (fun _ => 0) (fun _ => 0) w11 (fun j hj => absurd hj (by omega)) (fun j hj => absurd hj (by omega)) (by omega) (by omega) true ⟨fun _ => ⟨rfl, fun _ _ => rfl⟩, fun _ => rfl⟩
          refine hcall.mono ?_
          clear hcall
          rintro e w12 ⟨rfl, k12, hw12⟩
          have HB12 : Hid (Below w.heap.size w w12) := by subst w12; exact below_drewN HB11.out k12
          clear hw12
          go_wp2_with fail
          go_ret
          exact ⟨rfl, HB12.out⟩
      · have hcall := graphFault_bad n A m cp a b c w5 (HL.out.keep HB5.out) hm 3 HF.out
        refine hcall.mono ?_
        clear hcall
        rintro e w6 ⟨rfl, hb6⟩
        have HB6 := Lib.hid (keep HB5.out hb6)
        clear hb6
        go_wp2_with fail
        go_loopw [16, 17] (fun v i wr => v = .int .i64 3 ∧ i = .int .i64 0 ∧ wr = w6) (fun _ _ _ => 0)
        case atStart => exact ⟨rfl, rfl, rfl⟩
        case round =>
          obtain ⟨rfl, rfl, hwr⟩ := hrel
          subst wr
          go_wp2_with fail
          have hcall := bellRound_bad n t A D m cp cd kd a b c d w6 (HL.out.keep HB6.out) (HD.out.keep HB6.out) hm hkd 3 (.inl HF.out)
          refine hcall.mono ?_
          clear hcall
          rintro e w7 ⟨rfl, hb7⟩
          have HB7 := Lib.hid (keep HB6.out hb7)
          clear hb7
          go_wp2_with fail
          have hcall := err_no 3 3 true ⟨fun _ => rfl, fun _ => rfl⟩ w7 (HG.out.keep HB7.out)
          refine hcall.mono ?_
          clear hcall
          rintro e w8 ⟨rfl, hb8⟩
          have HB8 := Lib.hid (keep HB7.out hb8)
          clear hb8
          go_wp2_with fail
          have hcall := ints_walk none none 0 0 0 0 (fun _ => 0) (fun _ => 0) w8 (fun j hj => absurd hj (by omega)) (fun j hj => absurd hj (by omega)) (by omega) (by omega) true ⟨fun _ => ⟨rfl, fun _ _ => rfl⟩, fun _ => rfl⟩
          refine hcall.mono ?_
          clear hcall
          rintro e w9 ⟨rfl, k9, hw9⟩
          have HB9 : Hid (Below w.heap.size w w9) := by subst w9; exact below_drewN HB8.out k9
          clear hw9
          go_wp2_with fail
          have hcall := bellRun_bad n t A m cp a b c w9 (HL.out.keep HB9.out) hm 3 (.inl HF.out)
          refine hcall.mono ?_
          clear hcall
          rintro e w10 ⟨rfl, hb10⟩
          have HB10 := Lib.hid (keep HB9.out hb10)
          clear hb10
          go_wp2_with fail
          have hcall := err_no 3 3 true ⟨fun _ => rfl, fun _ => rfl⟩ w10 (HG.out.keep HB10.out)
          refine hcall.mono ?_
          clear hcall
          rintro e w11 ⟨rfl, hb11⟩
          have HB11 := Lib.hid (keep HB10.out hb11)
          clear hb11
          go_wp2_with fail
          have hcall := ints_walk none none 0 0 0 0 (fun _ => 0) (fun _ => 0) w11 (fun j hj => absurd hj (by omega)) (fun j hj => absurd hj (by omega)) (by omega) (by omega) true ⟨fun _ => ⟨rfl, fun _ _ => rfl⟩, fun _ => rfl⟩
          refine hcall.mono ?_
          clear hcall
          rintro e w12 ⟨rfl, k12, hw12⟩
          have HB12 : Hid (Below w.heap.size w w12) := by subst w12; exact below_drewN HB11.out k12
          clear hw12
          go_wp2_with fail
          go_ret
          exact ⟨rfl, HB12.out⟩
      · have hcall := graphFault_bad n A m cp a b c w5 (HL.out.keep HB5.out) hm 5 HF.out
        refine hcall.mono ?_
        clear hcall
        rintro e w6 ⟨rfl, hb6⟩
        have HB6 := Lib.hid (keep HB5.out hb6)
        clear hb6
        go_wp2_with fail
        go_loopw [16, 17] (fun v i wr => v = .int .i64 5 ∧ i = .int .i64 0 ∧ wr = w6) (fun _ _ _ => 0)
        case atStart => exact ⟨rfl, rfl, rfl⟩
        case round =>
          obtain ⟨rfl, rfl, hwr⟩ := hrel
          subst wr
          go_wp2_with fail
          have hcall := bellRound_bad n t A D m cp cd kd a b c d w6 (HL.out.keep HB6.out) (HD.out.keep HB6.out) hm hkd 5 (.inl HF.out)
          refine hcall.mono ?_
          clear hcall
          rintro e w7 ⟨rfl, hb7⟩
          have HB7 := Lib.hid (keep HB6.out hb7)
          clear hb7
          go_wp2_with fail
          have hcall := err_no 5 5 true ⟨fun _ => rfl, fun _ => rfl⟩ w7 (HG.out.keep HB7.out)
          refine hcall.mono ?_
          clear hcall
          rintro e w8 ⟨rfl, hb8⟩
          have HB8 := Lib.hid (keep HB7.out hb8)
          clear hb8
          go_wp2_with fail
          have hcall := ints_walk none none 0 0 0 0 (fun _ => 0) (fun _ => 0) w8 (fun j hj => absurd hj (by omega)) (fun j hj => absurd hj (by omega)) (by omega) (by omega) true ⟨fun _ => ⟨rfl, fun _ _ => rfl⟩, fun _ => rfl⟩
          refine hcall.mono ?_
          clear hcall
          rintro e w9 ⟨rfl, k9, hw9⟩
          have HB9 : Hid (Below w.heap.size w w9) := by subst w9; exact below_drewN HB8.out k9
          clear hw9
          go_wp2_with fail
          have hcall := bellRun_bad n t A m cp a b c w9 (HL.out.keep HB9.out) hm 5 (.inl HF.out)
          refine hcall.mono ?_
          clear hcall
          rintro e w10 ⟨rfl, hb10⟩
          have HB10 := Lib.hid (keep HB9.out hb10)
          clear hb10
          go_wp2_with fail
          have hcall := err_no 5 5 true ⟨fun _ => rfl, fun _ => rfl⟩ w10 (HG.out.keep HB10.out)
          refine hcall.mono ?_
          clear hcall
          rintro e w11 ⟨rfl, hb11⟩
          have HB11 := Lib.hid (keep HB10.out hb11)
          clear hb11
          go_wp2_with fail
          have hcall := ints_walk none none 0 0 0 0 (fun _ => 0) (fun _ => 0) w11 (fun j hj => absurd hj (by omega)) (fun j hj => absurd hj (by omega)) (by omega) (by omega) true ⟨fun _ => ⟨rfl, fun _ _ => rfl⟩, fun _ => rfl⟩
          refine hcall.mono ?_
          clear hcall
          rintro e w12 ⟨rfl, k12, hw12⟩
          have HB12 : Hid (Below w.heap.size w w12) := by subst w12; exact below_drewN HB11.out k12
          clear hw12
          go_wp2_with fail
          go_ret
          exact ⟨rfl, HB12.out⟩

end Go.Proofs.YtdilajieimbdnaaDoor

/- LoopTells: the walk. -/
import Derived.Test.YtjbilhpdnmgljaaDoorLoopsOf
import Derived.Test.YtjbilhpdnmgljaaDoorLoopStays
namespace Go.Proofs.YtjbilhpdnmgljaaDoor
open Go.RowKit
set_option linter.unusedVariables false

set_option maxRecDepth 100000 in
set_option maxHeartbeats 8000000 in
theorem loopTells_walk (A : Option Addr) (n c : Nat) (s : Nat → Int) (x : Int) (w : World) (hg : ErrT w) (hA : Vec w A n s) (hn : n ≤ 17592186044416) :
    Calls Tryd.prog 8 #[.slice A n c, .int .i64 x] w fun e w' => e = .returned (.bool true) ∧ Below w.heap.size w w' := by
  have HA := Lib.hid hA
  have HG := Lib.hid hg
  have hn' : (n : Int) ≤ 17592186044416 := by omega
  clear hA hg
  go_enter Tryd.func8, Tryd.ntmps8
  go_wp2_with fail
  refine (looped_walk w).mono ?_
  rintro e w1 ⟨rfl, hb1⟩
  have HB1 := Lib.hid hb1
  clear hb1
  go_wp2_with fail
  by_cases hs : OkN n s
  · have HS := Lib.hid hs
    clear hs
    refine (nextFault_walk A n c s w1 (HA.out.keep HB1.out) hn 0 (.inl ⟨HS.out, rfl⟩)).mono ?_
    rintro e w2 ⟨rfl, hw2⟩
    subst w2
    go_wp2_with fail
    refine (loopCheck_ok A n c s w1 (HA.out.keep HB1.out) (by omega) HS.out).mono ?_
    rintro e w2 ⟨rfl, hw2⟩
    subst w2
    go_wp2_with fail
    refine (err_nil 0 true ⟨fun _ => rfl, fun _ => rfl⟩ w1).mono ?_
    rintro e w2 ⟨rfl, hb2⟩
    have HB2 := Lib.hid (keep HB1.out hb2)
    clear hb2 HB1
    by_cases h60 : n ≤ 60
    · have h60' : (n : Int) ≤ 60 := by omega
      have hd60 : decide ((60 : Int) < n) = false := decide_eq_false (by omega)
      have hd61 : decide (60 < n) = false := decide_eq_false (by omega)
      go_wp2_with fail
      have hcall := loopsOf_walk A n c s w2 (HA.out.keep HB2.out) (by omega) HS.out (fun v => @decide (OnC s v) (Classical.propDecidable _)) (fun v _ => by simp)
      refine hcall.mono ?_
      clear hcall
      rintro e w3 ⟨v3, rfl, hown3, hb3⟩
      obtain ⟨B3, c3, rfl, hV3⟩ := hown3.vec
      have HV3 := Lib.hid hV3
      have HB3 := Lib.hid (keep HB2.out hb3)
      clear hown3 hb3 hV3 HB2
      go_wp2_with fail
      have hcall := loops_ok A n c s w3 (HA.out.keep HB3.out) hn HS.out (fun v => @decide (OnC s v) (Classical.propDecidable _)) (fun v _ => by simp)
      refine hcall.mono ?_
      clear hcall
      rintro e w4 ⟨v4, rfl, hown4, hb4⟩
      obtain ⟨B4, c4, rfl, hV4⟩ := hown4.vec
      have HV4 := Lib.hid hV4
      have HV34 := Lib.hid (HV3.out.keep hb4)
      have HB4 := Lib.hid (keep HB3.out hb4)
      clear hown4 hb4 hV4 HB3 HV3
      go_wp2_with fail
      refine (err_nil 0 true ⟨fun _ => rfl, fun _ => rfl⟩ w4).mono ?_
      rintro e w5 ⟨rfl, hb5⟩
      have HV35 := Lib.hid (HV34.out.keep hb5)
      have HV45 := Lib.hid (HV4.out.keep hb5)
      have HB5 := Lib.hid (keep HB4.out hb5)
      clear hb5 HB4 HV4 HV34
      have hml := pickL_len (fun v => @decide (OnC s v) (Classical.propDecidable _)) n
      go_wp2_with fail
      have hcall := ints_walk B4 B3 _ _ c4 c3 _ _ w5 HV45.out HV35.out (by omega) (by omega) true ⟨fun _ => ⟨rfl, fun _ _ => rfl⟩, fun _ => rfl⟩
      refine hcall.mono ?_
      clear hcall
      rintro e w6 ⟨rfl, k6, rfl⟩
      have HBt : Hid (Below w.heap.size w (w5.drewN k6)) := below_drewN HB5.out k6
      clear HB5 HV35 HV45 hml hd60 hd61 h60'
      by_cases hx : 0 ≤ x ∧ x < n
      · obtain ⟨i, rfl⟩ : ∃ i : Nat, x = i := ⟨x.toNat, by omega⟩
        have hi : i < n := by omega
        have hi' : (i : Int) < n := by omega
        clear hx
        have hst := steps_walk A n c i n i n rfl rfl s _ (HA.out.keep HBt.out) hn hn HS.out hi
        by_cases hz : itN s i n < 0
        · obtain ⟨d, hd, hneg, hpos⟩ := deep_least hz
          have hd0 : decide (0 ≤ itN s i n) = false := decide_eq_false (by omega)
          have HPOS := Lib.hid hpos
          have HNEG := Lib.hid hneg
          clear hz hneg hpos
          go_wp2_with fail
          refine hst.mono ?_
          clear hst
          rintro e w5 ⟨rfl, hw5⟩
          subst w5
          go_wp2_with fail
          go_loopw [13] (fun v wr => ∃ k : Nat, k ≤ d ∧ v = .int .i64 k ∧ Below w.heap.size w wr) (fun v _ => d - (intOf v).toNat)
          case atStart => exact ⟨0, by omega, rfl, HBt.out⟩
          case round =>
            obtain ⟨k, hk, rfl, hbt⟩ := hrel
            clear HBt hd0
            have HBt := Lib.hid hbt
            clear hbt
            have hst := steps_walk A n c i k i k rfl rfl s _ (HA.out.keep HBt.out) (by omega) hn HS.out hi
            by_cases hkd : k < d
            · have hd1 : decide (0 ≤ itN s i k) = true := decide_eq_true (HPOS.out k hkd)
              have hkI : (k : Int) ≤ 17592186044416 := by omega
              go_wp2_with fail
              refine hst.mono ?_
              clear hst
              rintro e w5 ⟨rfl, hw5⟩
              subst w5
              go_wp2_with fail
              go_roundw
              case rel => exact ⟨k + 1, by omega, by go_num, HBt.out⟩
              case measure => simp [intOf]; omega
            · obtain rfl : k = d := by omega
              have hd1 : decide (0 ≤ itN s i k) = false := decide_eq_false (by have := HNEG.out; omega)
              have hcall := deep_to A n c i i rfl s _ (HA.out.keep HBt.out) hn HS.out hi k HPOS.out _ (.inl ⟨hd, HNEG.out, rfl⟩)
              go_wp2_with fail
              refine hst.mono ?_
              clear hst
              rintro e w5 ⟨rfl, hw5⟩
              subst w5
              go_wp2_with fail
              refine hcall.mono ?_
              clear hcall
              rintro e w5 ⟨rfl, hw5⟩
              subst w5
              go_wp2_with fail
              refine (err_nil 0 true ⟨fun _ => rfl, fun _ => rfl⟩ _).mono ?_
              rintro e w6 ⟨rfl, hb6⟩
              have HB6 := Lib.hid (keep HBt.out hb6)
              clear hb6
              go_wp2_with fail
              go_ret
              exact ⟨rfl, HB6.out⟩
        · have hz0 : 0 ≤ itN s i n := by omega
          have hd0 : decide (0 ≤ itN s i n) = true := decide_eq_true hz0
          have HPOS := Lib.hid (never_pos hz0)
          clear hz hz0
          go_wp2_with fail
          refine hst.mono ?_
          clear hst
          rintro e w5 ⟨rfl, hw5⟩
          subst w5
          go_wp2_with fail
          go_loopw [13] (fun v wr => v = .int .i64 0 ∧ Below w.heap.size w wr) (fun v _ => 0)
          case atStart => exact ⟨rfl, HBt.out⟩
          case round =>
            obtain ⟨rfl, hbt⟩ := hrel
            clear HBt hd0
            have HBt := Lib.hid hbt
            clear hbt
            have hcall := deep_to A n c i i rfl s _ (HA.out.keep HBt.out) hn HS.out hi (n + 1) HPOS.out _ (.inr ⟨rfl, rfl⟩)
            go_wp2_with fail
            refine hcall.mono ?_
            clear hcall
            rintro e w5 ⟨rfl, hw5⟩
            subst w5
            go_wp2_with fail
            refine (err_no 2 2 true ⟨fun _ => rfl, fun _ => rfl⟩ _ (HG.out.keep HBt.out)).mono ?_
            rintro e w6 ⟨rfl, hb6⟩
            have HB6 := Lib.hid (keep HBt.out hb6)
            clear hb6
            go_wp2_with fail
            go_ret
            exact ⟨rfl, HB6.out⟩
      · have hxx : x < 0 ∨ (n : Int) ≤ x := by omega
        have HX := Lib.hid hxx
        rcases (show x < 0 ∨ (0 ≤ x ∧ (n : Int) ≤ x) by omega) with h | ⟨h0, h1⟩
        all_goals
          clear hx hxx
          go_wp2_with fail
          go_loopw [13] (fun v wr => v = .int .i64 0 ∧ Below w.heap.size w wr) (fun v _ => 0)
          case atStart => exact ⟨rfl, HBt.out⟩
          case round =>
            obtain ⟨rfl, hbt⟩ := hrel
            clear HBt
            have HBt := Lib.hid hbt
            clear hbt
            have hcall := deep_bad A n c x s _ (HA.out.keep HBt.out) hn (.inr ⟨HS.out, HX.out⟩)
            go_wp2_with fail
            refine hcall.mono ?_
            clear hcall
            rintro e w5 ⟨rfl, hw5⟩
            subst w5
            go_wp2_with fail
            refine (err_no 1 1 true ⟨fun _ => rfl, fun _ => rfl⟩ _ (HG.out.keep HBt.out)).mono ?_
            rintro e w6 ⟨rfl, hb6⟩
            have HB6 := Lib.hid (keep HBt.out hb6)
            clear hb6
            go_wp2_with fail
            go_ret
            exact ⟨rfl, HB6.out⟩
    · have h60' : (60 : Int) < n := by omega
      have hd60 : decide ((n : Int) ≤ 60) = false := decide_eq_false (by omega)
      have hd61 : decide (n ≤ 60) = false := decide_eq_false (by omega)
      have h61 : 60 < n := by omega
      go_wp2_with fail
      have hcall := loops_ok A n c s w2 (HA.out.keep HB2.out) hn HS.out (fun v => @decide (OnC s v) (Classical.propDecidable _)) (fun v _ => by simp)
      refine hcall.mono ?_
      clear hcall
      rintro e w4 ⟨v4, rfl, hown4, hb4⟩
      have HB4 := Lib.hid (keep HB2.out hb4)
      clear hown4 hb4 HB2
      go_wp2_with fail
      refine (err_nil 0 true ⟨fun _ => rfl, fun _ => rfl⟩ w4).mono ?_
      rintro e w5 ⟨rfl, hb5⟩
      have HBt := Lib.hid (keep HB4.out hb5)
      clear hb5 HB4
      clear h60
      by_cases hx : 0 ≤ x ∧ x < n
      · obtain ⟨i, rfl⟩ : ∃ i : Nat, x = i := ⟨x.toNat, by omega⟩
        have hi : i < n := by omega
        have hi' : (i : Int) < n := by omega
        clear hx
        have hst := steps_walk A n c i n i n rfl rfl s _ (HA.out.keep HBt.out) hn hn HS.out hi
        by_cases hz : itN s i n < 0
        · obtain ⟨d, hd, hneg, hpos⟩ := deep_least hz
          have hd0 : decide (0 ≤ itN s i n) = false := decide_eq_false (by omega)
          have HPOS := Lib.hid hpos
          have HNEG := Lib.hid hneg
          clear hz hneg hpos
          go_wp2_with fail
          refine hst.mono ?_
          clear hst
          rintro e w5 ⟨rfl, hw5⟩
          subst w5
          go_wp2_with fail
          go_loopw [13] (fun v wr => ∃ k : Nat, k ≤ d ∧ v = .int .i64 k ∧ Below w.heap.size w wr) (fun v _ => d - (intOf v).toNat)
          case atStart => exact ⟨0, by omega, rfl, HBt.out⟩
          case round =>
            obtain ⟨k, hk, rfl, hbt⟩ := hrel
            clear HBt hd0
            have HBt := Lib.hid hbt
            clear hbt
            have hst := steps_walk A n c i k i k rfl rfl s _ (HA.out.keep HBt.out) (by omega) hn HS.out hi
            by_cases hkd : k < d
            · have hd1 : decide (0 ≤ itN s i k) = true := decide_eq_true (HPOS.out k hkd)
              have hkI : (k : Int) ≤ 17592186044416 := by omega
              go_wp2_with fail
              refine hst.mono ?_
              clear hst
              rintro e w5 ⟨rfl, hw5⟩
              subst w5
              go_wp2_with fail
              go_roundw
              case rel => exact ⟨k + 1, by omega, by go_num, HBt.out⟩
              case measure => simp [intOf]; omega
            · obtain rfl : k = d := by omega
              have hd1 : decide (0 ≤ itN s i k) = false := decide_eq_false (by have := HNEG.out; omega)
              have hcall := deep_to A n c i i rfl s _ (HA.out.keep HBt.out) hn HS.out hi k HPOS.out _ (.inl ⟨hd, HNEG.out, rfl⟩)
              go_wp2_with fail
              refine hst.mono ?_
              clear hst
              rintro e w5 ⟨rfl, hw5⟩
              subst w5
              go_wp2_with fail
              refine hcall.mono ?_
              clear hcall
              rintro e w5 ⟨rfl, hw5⟩
              subst w5
              go_wp2_with fail
              refine (err_nil 0 true ⟨fun _ => rfl, fun _ => rfl⟩ _).mono ?_
              rintro e w6 ⟨rfl, hb6⟩
              have HB6 := Lib.hid (keep HBt.out hb6)
              clear hb6
              go_wp2_with fail
              go_ret
              exact ⟨rfl, HB6.out⟩
        · have hz0 : 0 ≤ itN s i n := by omega
          have hd0 : decide (0 ≤ itN s i n) = true := decide_eq_true hz0
          have HPOS := Lib.hid (never_pos hz0)
          clear hz hz0
          go_wp2_with fail
          refine hst.mono ?_
          clear hst
          rintro e w5 ⟨rfl, hw5⟩
          subst w5
          go_wp2_with fail
          go_loopw [13] (fun v wr => v = .int .i64 0 ∧ Below w.heap.size w wr) (fun v _ => 0)
          case atStart => exact ⟨rfl, HBt.out⟩
          case round =>
            obtain ⟨rfl, hbt⟩ := hrel
            clear HBt hd0
            have HBt := Lib.hid hbt
            clear hbt
            have hcall := deep_to A n c i i rfl s _ (HA.out.keep HBt.out) hn HS.out hi (n + 1) HPOS.out _ (.inr ⟨rfl, rfl⟩)
            go_wp2_with fail
            refine hcall.mono ?_
            clear hcall
            rintro e w5 ⟨rfl, hw5⟩
            subst w5
            go_wp2_with fail
            refine (err_no 2 2 true ⟨fun _ => rfl, fun _ => rfl⟩ _ (HG.out.keep HBt.out)).mono ?_
            rintro e w6 ⟨rfl, hb6⟩
            have HB6 := Lib.hid (keep HBt.out hb6)
            clear hb6
            go_wp2_with fail
            go_ret
            exact ⟨rfl, HB6.out⟩
      · have hxx : x < 0 ∨ (n : Int) ≤ x := by omega
        have HX := Lib.hid hxx
        rcases (show x < 0 ∨ (0 ≤ x ∧ (n : Int) ≤ x) by omega) with h | ⟨h0, h1⟩
        all_goals
          clear hx hxx
          go_wp2_with fail
          go_loopw [13] (fun v wr => v = .int .i64 0 ∧ Below w.heap.size w wr) (fun v _ => 0)
          case atStart => exact ⟨rfl, HBt.out⟩
          case round =>
            obtain ⟨rfl, hbt⟩ := hrel
            clear HBt
            have HBt := Lib.hid hbt
            clear hbt
            have hcall := deep_bad A n c x s _ (HA.out.keep HBt.out) hn (.inr ⟨HS.out, HX.out⟩)
            go_wp2_with fail
            refine hcall.mono ?_
            clear hcall
            rintro e w5 ⟨rfl, hw5⟩
            subst w5
            go_wp2_with fail
            refine (err_no 1 1 true ⟨fun _ => rfl, fun _ => rfl⟩ _ (HG.out.keep HBt.out)).mono ?_
            rintro e w6 ⟨rfl, hb6⟩
            have HB6 := Lib.hid (keep HBt.out hb6)
            clear hb6
            go_wp2_with fail
            go_ret
            exact ⟨rfl, HB6.out⟩
  · have HS := Lib.hid hs
    clear hs
    refine (nextFault_walk A n c s w1 (HA.out.keep HB1.out) hn 1 (.inr ⟨HS.out, rfl⟩)).mono ?_
    rintro e w2 ⟨rfl, hw2⟩
    subst w2
    go_wp2_with fail
    refine (loopCheck_bad A n c s w1 (HA.out.keep HB1.out) (by omega) HS.out).mono ?_
    rintro e w2 ⟨rfl, hw2⟩
    subst w2
    go_wp2_with fail
    refine (err_no 1 1 true ⟨fun _ => rfl, fun _ => rfl⟩ w1 (HG.out.keep HB1.out)).mono ?_
    rintro e w2 ⟨rfl, hb2⟩
    have HB2 := Lib.hid (keep HB1.out hb2)
    clear hb2 HB1
    go_wp2_with fail
    refine (loops_bad A n c s w2 (HA.out.keep HB2.out) (by omega) HS.out).mono ?_
    rintro e w3 ⟨rfl, hw3⟩
    subst w3
    go_wp2_with fail
    refine (err_no 1 1 true ⟨fun _ => rfl, fun _ => rfl⟩ w2 (HG.out.keep HB2.out)).mono ?_
    rintro e w4 ⟨rfl, hb4⟩
    have HB4 := Lib.hid (keep HB2.out hb4)
    clear hb4 HB2
    by_cases h60 : n ≤ 60
    · have h60' : (n : Int) ≤ 60 := by omega
      have hd60 : decide ((60 : Int) < n) = false := decide_eq_false (by omega)
      have hd61 : decide (60 < n) = false := decide_eq_false (by omega)
      go_wp2_with fail
      have hcall := ints_walk none none 0 0 0 0 (fun _ => 0) (fun _ => 0) w4 (fun j hj => absurd hj (by omega)) (fun j hj => absurd hj (by omega)) (by omega) (by omega) true ⟨fun _ => ⟨rfl, fun _ _ => rfl⟩, fun _ => rfl⟩
      refine hcall.mono ?_
      clear hcall
      rintro e w6 ⟨rfl, k6, rfl⟩
      have HBt : Hid (Below w.heap.size w (w4.drewN k6)) := below_drewN HB4.out k6
      clear HB4
      go_wp2_with fail
      go_loopw [13] (fun v wr => v = .int .i64 0 ∧ Below w.heap.size w wr) (fun v _ => 0)
      case atStart => exact ⟨rfl, HBt.out⟩
      case round =>
        obtain ⟨rfl, hbt⟩ := hrel
        clear HBt
        have HBt := Lib.hid hbt
        clear hbt
        have hcall := deep_bad A n c x s _ (HA.out.keep HBt.out) hn (.inl HS.out)
        go_wp2_with fail
        refine hcall.mono ?_
        clear hcall
        rintro e w5 ⟨rfl, hw5⟩
        subst w5
        go_wp2_with fail
        refine (err_no 1 1 true ⟨fun _ => rfl, fun _ => rfl⟩ _ (HG.out.keep HBt.out)).mono ?_
        rintro e w6 ⟨rfl, hb6⟩
        have HB6 := Lib.hid (keep HBt.out hb6)
        clear hb6
        go_wp2_with fail
        go_ret
        exact ⟨rfl, HB6.out⟩
    · have h60' : (60 : Int) < n := by omega
      have h61 : 60 < n := by omega
      have HBt := HB4
      clear HB4
      go_wp2_with fail
      go_loopw [13] (fun v wr => v = .int .i64 0 ∧ Below w.heap.size w wr) (fun v _ => 0)
      case atStart => exact ⟨rfl, HBt.out⟩
      case round =>
        obtain ⟨rfl, hbt⟩ := hrel
        clear HBt
        have HBt := Lib.hid hbt
        clear hbt
        have hcall := deep_bad A n c x s _ (HA.out.keep HBt.out) hn (.inl HS.out)
        go_wp2_with fail
        refine hcall.mono ?_
        clear hcall
        rintro e w5 ⟨rfl, hw5⟩
        subst w5
        go_wp2_with fail
        refine (err_no 1 1 true ⟨fun _ => rfl, fun _ => rfl⟩ _ (HG.out.keep HBt.out)).mono ?_
        rintro e w6 ⟨rfl, hb6⟩
        have HB6 := Lib.hid (keep HBt.out hb6)
        clear hb6
        go_wp2_with fail
        go_ret
        exact ⟨rfl, HB6.out⟩

end Go.Proofs.YtjbilhpdnmgljaaDoor

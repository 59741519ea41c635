/- MatTells: the walk. Printed by gen_mattells.py. -/
import Derived.Test.YtdilajieimbdnaaDoorRefTab
import Derived.Test.YtdilajieimbdnaaDoorTabled
import Derived.Test.YtdilajieimbdnaaDoorStar
import Derived.Test.YtdilajieimbdnaaDoorMatOne
import Derived.Test.YtdilajieimbdnaaDoorErr
namespace Go.Proofs.YtdilajieimbdnaaDoor
open Go.RowKit
set_option linter.unusedVariables false

set_option maxRecDepth 100000 in
set_option maxHeartbeats 8000000 in
theorem matTells_walk (A : Option Addr) (n ca : Nat) (L : Nat → Nat) (f : Nat → Nat → Int) (B : Option Addr) (m cb : Nat) (M : Nat → Nat) (g : Nat → Nat → Int) (x : Int) (w : World) (hg : ErrT w)
    (hA : Mat w A n L f) (hn : n ≤ 9223372036854775807) (hL : ∀ i, i < n → L i ≤ 9223372036854775807) (hB : Mat w B m M g) (hm : m ≤ 9223372036854775807) (hM : ∀ i, i < m → M i ≤ 9223372036854775807) :
    Calls Tryd.prog 7 #[.slice A n ca, .slice B m cb, .int .i64 x] w fun e w' => e = .returned (.bool true) ∧ Below w.heap.size w w' := by
  have HA := Lib.hid hA
  have HBB := Lib.hid hB
  have HG := Lib.hid hg
  clear hA hB hg hL hM
  by_cases hga : Good n L f
  · have h1 : 1 ≤ n := hga.1.1
    have h8 : n ≤ 8 := hga.1.2.1
    have hn8 : (n : Int) ≤ 8 := by omega
    have HSA := Lib.hid (hga.1.mat HA.out)
    have HGA := Lib.hid hga
    clear hga
    by_cases hgb : Good m M g
    · have hm8 : (m : Int) ≤ 8 := by have := hgb.1.2.1; omega
      have HGB := Lib.hid hgb
      clear hgb
      by_cases hnm : n = m
      · subst hnm
        have hkb : ((n : Int) == n) = true := by simp
        have hkb' : (n == n) = true := by simp
        have hkb2 : ((n : Int) != n) = false := by simp
        have hkb3 : (n != n) = false := by simp
        have HSB := Lib.hid (HGB.out.1.mat HBB.out)
        go_enter Tryd.func7, Tryd.ntmps7
        go_wp2_with fail
        have hcall := tabled_walk w
        refine hcall.mono ?_
        clear hcall
        rintro e w1 ⟨rfl, hb1⟩
        have HB1 := Lib.hid hb1
        clear hb1
        go_wp2_with fail
        have hcall := tableFault_good A n ca L f w1 (HA.out.keep HB1.out) HGA.out
        refine hcall.mono ?_
        clear hcall
        rintro e w2 ⟨rfl, h2⟩
        subst w2
        go_wp2_with fail
        have hcall := matCheck_good A n ca L f w1 (HA.out.keep HB1.out) HGA.out
        refine hcall.mono ?_
        clear hcall
        rintro e w2 ⟨rfl, hb2⟩
        have HB2 := Lib.hid (keep HB1.out hb2)
        clear hb2
        go_wp2_with fail
        have hcall := err_nil 0 true ⟨fun _ => rfl, fun _ => rfl⟩ w2
        refine hcall.mono ?_
        clear hcall
        rintro e w3 ⟨rfl, hb3⟩
        have HB3 := Lib.hid (keep HB2.out hb3)
        clear hb3
        go_wp2_with fail
        have hcall := starOf_walk A n ca f w3 (HSA.out.keep HB3.out) h1 h8 HGA.out.2
        refine hcall.mono ?_
        clear hcall
        rintro e w4 ⟨D4, c4, rfl, hM4, hb4⟩
        have HS_4 := Lib.hid hM4
        have HB4 := Lib.hid (keep HB3.out hb4)
        clear hM4 hb4
        go_wp2_with fail
        have hcall := matStar_ok A n ca L f w4 (HA.out.keep HB4.out) HGA.out
        refine hcall.mono ?_
        clear hcall
        rintro e w5 ⟨D5, c5, rfl, hM5, hb5⟩
        have HT_5 := Lib.hid hM5
        have HB5 := Lib.hid (keep HB4.out hb5)
        have HS_5 := Lib.hid (HS_4.out.keep hb5)
        clear hM5 hb5
        go_wp2_with fail
        have hcall := err_nil 0 true ⟨fun _ => rfl, fun _ => rfl⟩ w5
        refine hcall.mono ?_
        clear hcall
        rintro e w6 ⟨rfl, hb6⟩
        have HB6 := Lib.hid (keep HB5.out hb6)
        have HS_6 := Lib.hid (HS_5.out.keep hb6)
        have HT_6 := Lib.hid (HT_5.out.keep hb6)
        clear hb6
        go_wp2_with fail
        have hcall := rows_walk D5 D4 n n c5 c4 (fun _ => n) (fun _ => n) (starF n f) (starF n f) w6 HT_6.out HS_6.out (by omega) (by omega) (fun _ _ => by omega) (fun _ _ => by omega) true ⟨fun _ => ⟨rfl, fun _ _ => ⟨rfl, fun _ _ => rfl⟩⟩, fun _ => rfl⟩
        refine hcall.mono ?_
        clear hcall
        rintro e w7 ⟨rfl, k7, hw7⟩
        have HB7 : Hid (Below w.heap.size w w7) := by subst w7; exact below_drewN HB6.out k7
        clear hw7
        go_wp2_with fail
        have hcall := tableFault_good B n cb M g w7 (HBB.out.keep HB7.out) HGB.out
        refine hcall.mono ?_
        clear hcall
        rintro e w8 ⟨rfl, h8⟩
        subst w8
        go_wp2_with fail
        have hcall := mulOf_walk A B n ca cb f g w7 (HSA.out.keep HB7.out) (HSB.out.keep HB7.out) h1 h8 HGA.out.2 HGB.out.2
        refine hcall.mono ?_
        clear hcall
        rintro e w8 ⟨v8, rfl, hT8, hb8⟩
        obtain ⟨g8, c8, rfl, hM8⟩ := hT8.mat h1
        have HP_8 := Lib.hid hM8
        have HB8 := Lib.hid (keep HB7.out hb8)
        clear hT8 hM8 hb8
        go_wp2_with fail
        have hcall := matMul_good A B n n ca cb L M f g w8 (HA.out.keep HB8.out) (HBB.out.keep HB8.out) HGA.out HGB.out rfl
        refine hcall.mono ?_
        clear hcall
        rintro e w9 ⟨D9, c9, rfl, hM9, hb9⟩
        have HQ_9 := Lib.hid hM9
        have HB9 := Lib.hid (keep HB8.out hb9)
        have HP_9 := Lib.hid (HP_8.out.keep hb9)
        clear hM9 hb9
        go_wp2_with fail
        have hcall := err_nil 0 true ⟨fun _ => rfl, fun _ => rfl⟩ w9
        refine hcall.mono ?_
        clear hcall
        rintro e w10 ⟨rfl, hb10⟩
        have HB10 := Lib.hid (keep HB9.out hb10)
        have HP_10 := Lib.hid (HP_9.out.keep hb10)
        have HQ_10 := Lib.hid (HQ_9.out.keep hb10)
        clear hb10
        go_wp2_with fail
        have hcall := rows_walk D9 (some ⟨g8, 0, none⟩) n n c9 c8 (fun _ => n) (fun _ => n) (mulF n f g) (mulF n f g) w10 HQ_10.out HP_10.out (by omega) (by omega) (fun _ _ => by omega) (fun _ _ => by omega) true ⟨fun _ => ⟨rfl, fun _ _ => ⟨rfl, fun _ _ => rfl⟩⟩, fun _ => rfl⟩
        refine hcall.mono ?_
        clear hcall
        rintro e w11 ⟨rfl, k11, hw11⟩
        have HB11 : Hid (Below w.heap.size w w11) := by subst w11; exact below_drewN HB10.out k11
        clear hw11
        rcases (show x < 1 ∨ (1 ≤ x ∧ 8 < x) ∨ (1 ≤ x ∧ x ≤ 8) by omega) with hx | ⟨hx0, hx⟩ | ⟨hx0, hx⟩
        · have HX : Hid (x < 1 ∨ 8 < x) := .inl hx
          go_wp2_with fail
          have hcall := matOne_bad x w11 HX.out
          refine hcall.mono ?_
          clear hcall
          rintro e w12 ⟨rfl, hb12⟩
          have HB12 := Lib.hid (keep HB11.out hb12)
          clear hb12
          go_wp2_with fail
          have hcall := err_no 1 1 true ⟨fun _ => rfl, fun _ => rfl⟩ w12 (HG.out.keep HB12.out)
          refine hcall.mono ?_
          clear hcall
          rintro e w13 ⟨rfl, hb13⟩
          have HB13 := Lib.hid (keep HB12.out hb13)
          clear hb13
          go_wp2_with fail
          have hcall := rows_walk none none 0 0 0 0 (fun _ => 0) (fun _ => 0) (fun _ _ => 0) (fun _ _ => 0) w13 (fun j hj => absurd hj (by omega)) (fun j hj => absurd hj (by omega)) (by omega) (by omega) (fun i hi => absurd hi (by omega)) (fun i hi => absurd hi (by omega)) true ⟨fun _ => ⟨rfl, fun i hi => absurd hi (by omega)⟩, fun _ => rfl⟩
          refine hcall.mono ?_
          clear hcall
          rintro e w14 ⟨rfl, k14, hw14⟩
          have HB14 : Hid (Below w.heap.size w w14) := by subst w14; exact below_drewN HB13.out k14
          clear hw14
          go_wp2_with fail
          go_ret
          exact ⟨rfl, HB14.out⟩
        · have HX : Hid (x < 1 ∨ 8 < x) := .inr hx
          go_wp2_with fail
          have hcall := matOne_bad x w11 HX.out
          refine hcall.mono ?_
          clear hcall
          rintro e w12 ⟨rfl, hb12⟩
          have HB12 := Lib.hid (keep HB11.out hb12)
          clear hb12
          go_wp2_with fail
          have hcall := err_no 1 1 true ⟨fun _ => rfl, fun _ => rfl⟩ w12 (HG.out.keep HB12.out)
          refine hcall.mono ?_
          clear hcall
          rintro e w13 ⟨rfl, hb13⟩
          have HB13 := Lib.hid (keep HB12.out hb13)
          clear hb13
          go_wp2_with fail
          have hcall := rows_walk none none 0 0 0 0 (fun _ => 0) (fun _ => 0) (fun _ _ => 0) (fun _ _ => 0) w13 (fun j hj => absurd hj (by omega)) (fun j hj => absurd hj (by omega)) (by omega) (by omega) (fun i hi => absurd hi (by omega)) (fun i hi => absurd hi (by omega)) true ⟨fun _ => ⟨rfl, fun i hi => absurd hi (by omega)⟩, fun _ => rfl⟩
          refine hcall.mono ?_
          clear hcall
          rintro e w14 ⟨rfl, k14, hw14⟩
          have HB14 : Hid (Below w.heap.size w w14) := by subst w14; exact below_drewN HB13.out k14
          clear hw14
          go_wp2_with fail
          go_ret
          exact ⟨rfl, HB14.out⟩
        · obtain ⟨q, rfl⟩ : ∃ q : Nat, x = q := ⟨x.toNat, by omega⟩
          have hq1 : 1 ≤ q := by omega
          have hq8 : q ≤ 8 := by omega
          go_wp2_with fail
          have hcall := oneOf_walk q q rfl w11 hq1 hq8
          refine hcall.mono ?_
          clear hcall
          rintro e w12 ⟨v12, rfl, hT12, hb12⟩
          obtain ⟨g12, c12, rfl, hM12⟩ := hT12.mat hq1
          have HU_12 := Lib.hid hM12
          have HB12 := Lib.hid (keep HB11.out hb12)
          clear hT12 hM12 hb12
          go_wp2_with fail
          have hcall := matOne_ok q q rfl w12 hq1 hq8
          refine hcall.mono ?_
          clear hcall
          rintro e w13 ⟨D13, c13, rfl, hM13, hb13⟩
          have HV_13 := Lib.hid hM13
          have HB13 := Lib.hid (keep HB12.out hb13)
          have HU_13 := Lib.hid (HU_12.out.keep hb13)
          clear hM13 hb13
          go_wp2_with fail
          have hcall := err_nil 0 true ⟨fun _ => rfl, fun _ => rfl⟩ w13
          refine hcall.mono ?_
          clear hcall
          rintro e w14 ⟨rfl, hb14⟩
          have HB14 := Lib.hid (keep HB13.out hb14)
          have HU_14 := Lib.hid (HU_13.out.keep hb14)
          have HV_14 := Lib.hid (HV_13.out.keep hb14)
          clear hb14
          go_wp2_with fail
          have hcall := rows_walk D13 (some ⟨g12, 0, none⟩) q q c13 c12 (fun _ => q) (fun _ => q) (oneF) (oneF) w14 HV_14.out HU_14.out (by omega) (by omega) (fun _ _ => by omega) (fun _ _ => by omega) true ⟨fun _ => ⟨rfl, fun _ _ => ⟨rfl, fun _ _ => rfl⟩⟩, fun _ => rfl⟩
          refine hcall.mono ?_
          clear hcall
          rintro e w15 ⟨rfl, k15, hw15⟩
          have HB15 : Hid (Below w.heap.size w w15) := by subst w15; exact below_drewN HB14.out k15
          clear hw15
          go_wp2_with fail
          go_ret
          exact ⟨rfl, HB15.out⟩
      · have hkb : ((n : Int) == m) = false := beq_false_of_ne (by omega)
        have hkb' : (n == m) = false := beq_false_of_ne hnm
        have hkb2 : ((n : Int) != m) = true := by simp; omega
        have hkb3 : (n != m) = true := by simp; omega
        have HNM := Lib.hid hnm
        clear hnm
        go_enter Tryd.func7, Tryd.ntmps7
        go_wp2_with fail
        have hcall := tabled_walk w
        refine hcall.mono ?_
        clear hcall
        rintro e w1 ⟨rfl, hb1⟩
        have HB1 := Lib.hid hb1
        clear hb1
        go_wp2_with fail
        have hcall := tableFault_good A n ca L f w1 (HA.out.keep HB1.out) HGA.out
        refine hcall.mono ?_
        clear hcall
        rintro e w2 ⟨rfl, h2⟩
        subst w2
        go_wp2_with fail
        have hcall := matCheck_good A n ca L f w1 (HA.out.keep HB1.out) HGA.out
        refine hcall.mono ?_
        clear hcall
        rintro e w2 ⟨rfl, hb2⟩
        have HB2 := Lib.hid (keep HB1.out hb2)
        clear hb2
        go_wp2_with fail
        have hcall := err_nil 0 true ⟨fun _ => rfl, fun _ => rfl⟩ w2
        refine hcall.mono ?_
        clear hcall
        rintro e w3 ⟨rfl, hb3⟩
        have HB3 := Lib.hid (keep HB2.out hb3)
        clear hb3
        go_wp2_with fail
        have hcall := starOf_walk A n ca f w3 (HSA.out.keep HB3.out) h1 h8 HGA.out.2
        refine hcall.mono ?_
        clear hcall
        rintro e w4 ⟨D4, c4, rfl, hM4, hb4⟩
        have HS_4 := Lib.hid hM4
        have HB4 := Lib.hid (keep HB3.out hb4)
        clear hM4 hb4
        go_wp2_with fail
        have hcall := matStar_ok A n ca L f w4 (HA.out.keep HB4.out) HGA.out
        refine hcall.mono ?_
        clear hcall
        rintro e w5 ⟨D5, c5, rfl, hM5, hb5⟩
        have HT_5 := Lib.hid hM5
        have HB5 := Lib.hid (keep HB4.out hb5)
        have HS_5 := Lib.hid (HS_4.out.keep hb5)
        clear hM5 hb5
        go_wp2_with fail
        have hcall := err_nil 0 true ⟨fun _ => rfl, fun _ => rfl⟩ w5
        refine hcall.mono ?_
        clear hcall
        rintro e w6 ⟨rfl, hb6⟩
        have HB6 := Lib.hid (keep HB5.out hb6)
        have HS_6 := Lib.hid (HS_5.out.keep hb6)
        have HT_6 := Lib.hid (HT_5.out.keep hb6)
        clear hb6
        go_wp2_with fail
        have hcall := rows_walk D5 D4 n n c5 c4 (fun _ => n) (fun _ => n) (starF n f) (starF n f) w6 HT_6.out HS_6.out (by omega) (by omega) (fun _ _ => by omega) (fun _ _ => by omega) true ⟨fun _ => ⟨rfl, fun _ _ => ⟨rfl, fun _ _ => rfl⟩⟩, fun _ => rfl⟩
        refine hcall.mono ?_
        clear hcall
        rintro e w7 ⟨rfl, k7, hw7⟩
        have HB7 : Hid (Below w.heap.size w w7) := by subst w7; exact below_drewN HB6.out k7
        clear hw7
        go_wp2_with fail
        have hcall := tableFault_good B m cb M g w7 (HBB.out.keep HB7.out) HGB.out
        refine hcall.mono ?_
        clear hcall
        rintro e w8 ⟨rfl, h8⟩
        subst w8
        go_wp2_with fail
        have hcall := matMul_bad3 A B n m ca cb L M f g w7 (HA.out.keep HB7.out) (HBB.out.keep HB7.out) HGA.out HGB.out HNM.out
        refine hcall.mono ?_
        clear hcall
        rintro e w8 ⟨rfl, hb8⟩
        have HB8 := Lib.hid (keep HB7.out hb8)
        clear hb8
        go_wp2_with fail
        have hcall := err_no 3 3 true ⟨fun _ => rfl, fun _ => rfl⟩ w8 (HG.out.keep HB8.out)
        refine hcall.mono ?_
        clear hcall
        rintro e w9 ⟨rfl, hb9⟩
        have HB9 := Lib.hid (keep HB8.out hb9)
        clear hb9
        go_wp2_with fail
        have hcall := rows_walk none none 0 0 0 0 (fun _ => 0) (fun _ => 0) (fun _ _ => 0) (fun _ _ => 0) w9 (fun j hj => absurd hj (by omega)) (fun j hj => absurd hj (by omega)) (by omega) (by omega) (fun i hi => absurd hi (by omega)) (fun i hi => absurd hi (by omega)) true ⟨fun _ => ⟨rfl, fun i hi => absurd hi (by omega)⟩, fun _ => rfl⟩
        refine hcall.mono ?_
        clear hcall
        rintro e w10 ⟨rfl, k10, hw10⟩
        have HB10 : Hid (Below w.heap.size w w10) := by subst w10; exact below_drewN HB9.out k10
        clear hw10
        rcases (show x < 1 ∨ (1 ≤ x ∧ 8 < x) ∨ (1 ≤ x ∧ x ≤ 8) by omega) with hx | ⟨hx0, hx⟩ | ⟨hx0, hx⟩
        · have HX : Hid (x < 1 ∨ 8 < x) := .inl hx
          go_wp2_with fail
          have hcall := matOne_bad x w10 HX.out
          refine hcall.mono ?_
          clear hcall
          rintro e w11 ⟨rfl, hb11⟩
          have HB11 := Lib.hid (keep HB10.out hb11)
          clear hb11
          go_wp2_with fail
          have hcall := err_no 1 1 true ⟨fun _ => rfl, fun _ => rfl⟩ w11 (HG.out.keep HB11.out)
          refine hcall.mono ?_
          clear hcall
          rintro e w12 ⟨rfl, hb12⟩
          have HB12 := Lib.hid (keep HB11.out hb12)
          clear hb12
          go_wp2_with fail
          have hcall := rows_walk none none 0 0 0 0 (fun _ => 0) (fun _ => 0) (fun _ _ => 0) (fun _ _ => 0) w12 (fun j hj => absurd hj (by omega)) (fun j hj => absurd hj (by omega)) (by omega) (by omega) (fun i hi => absurd hi (by omega)) (fun i hi => absurd hi (by omega)) true ⟨fun _ => ⟨rfl, fun i hi => absurd hi (by omega)⟩, fun _ => rfl⟩
          refine hcall.mono ?_
          clear hcall
          rintro e w13 ⟨rfl, k13, hw13⟩
          have HB13 : Hid (Below w.heap.size w w13) := by subst w13; exact below_drewN HB12.out k13
          clear hw13
          go_wp2_with fail
          go_ret
          exact ⟨rfl, HB13.out⟩
        · have HX : Hid (x < 1 ∨ 8 < x) := .inr hx
          go_wp2_with fail
          have hcall := matOne_bad x w10 HX.out
          refine hcall.mono ?_
          clear hcall
          rintro e w11 ⟨rfl, hb11⟩
          have HB11 := Lib.hid (keep HB10.out hb11)
          clear hb11
          go_wp2_with fail
          have hcall := err_no 1 1 true ⟨fun _ => rfl, fun _ => rfl⟩ w11 (HG.out.keep HB11.out)
          refine hcall.mono ?_
          clear hcall
          rintro e w12 ⟨rfl, hb12⟩
          have HB12 := Lib.hid (keep HB11.out hb12)
          clear hb12
          go_wp2_with fail
          have hcall := rows_walk none none 0 0 0 0 (fun _ => 0) (fun _ => 0) (fun _ _ => 0) (fun _ _ => 0) w12 (fun j hj => absurd hj (by omega)) (fun j hj => absurd hj (by omega)) (by omega) (by omega) (fun i hi => absurd hi (by omega)) (fun i hi => absurd hi (by omega)) true ⟨fun _ => ⟨rfl, fun i hi => absurd hi (by omega)⟩, fun _ => rfl⟩
          refine hcall.mono ?_
          clear hcall
          rintro e w13 ⟨rfl, k13, hw13⟩
          have HB13 : Hid (Below w.heap.size w w13) := by subst w13; exact below_drewN HB12.out k13
          clear hw13
          go_wp2_with fail
          go_ret
          exact ⟨rfl, HB13.out⟩
        · obtain ⟨q, rfl⟩ : ∃ q : Nat, x = q := ⟨x.toNat, by omega⟩
          have hq1 : 1 ≤ q := by omega
          have hq8 : q ≤ 8 := by omega
          go_wp2_with fail
          have hcall := oneOf_walk q q rfl w10 hq1 hq8
          refine hcall.mono ?_
          clear hcall
          rintro e w11 ⟨v11, rfl, hT11, hb11⟩
          obtain ⟨g11, c11, rfl, hM11⟩ := hT11.mat hq1
          have HU_11 := Lib.hid hM11
          have HB11 := Lib.hid (keep HB10.out hb11)
          clear hT11 hM11 hb11
          go_wp2_with fail
          have hcall := matOne_ok q q rfl w11 hq1 hq8
          refine hcall.mono ?_
          clear hcall
          rintro e w12 ⟨D12, c12, rfl, hM12, hb12⟩
          have HV_12 := Lib.hid hM12
          have HB12 := Lib.hid (keep HB11.out hb12)
          have HU_12 := Lib.hid (HU_11.out.keep hb12)
          clear hM12 hb12
          go_wp2_with fail
          have hcall := err_nil 0 true ⟨fun _ => rfl, fun _ => rfl⟩ w12
          refine hcall.mono ?_
          clear hcall
          rintro e w13 ⟨rfl, hb13⟩
          have HB13 := Lib.hid (keep HB12.out hb13)
          have HU_13 := Lib.hid (HU_12.out.keep hb13)
          have HV_13 := Lib.hid (HV_12.out.keep hb13)
          clear hb13
          go_wp2_with fail
          have hcall := rows_walk D12 (some ⟨g11, 0, none⟩) q q c12 c11 (fun _ => q) (fun _ => q) (oneF) (oneF) w13 HV_13.out HU_13.out (by omega) (by omega) (fun _ _ => by omega) (fun _ _ => by omega) true ⟨fun _ => ⟨rfl, fun _ _ => ⟨rfl, fun _ _ => rfl⟩⟩, fun _ => rfl⟩
          refine hcall.mono ?_
          clear hcall
          rintro e w14 ⟨rfl, k14, hw14⟩
          have HB14 : Hid (Below w.heap.size w w14) := by subst w14; exact below_drewN HB13.out k14
          clear hw14
          go_wp2_with fail
          go_ret
          exact ⟨rfl, HB14.out⟩
    · have HGB := Lib.hid hgb
      clear hgb
      rcases fault_is m M g with hf | hf
      · have HF := Lib.hid hf
        clear hf
        go_enter Tryd.func7, Tryd.ntmps7
        go_wp2_with fail
        have hcall := tabled_walk w
        refine hcall.mono ?_
        clear hcall
        rintro e w1 ⟨rfl, hb1⟩
        have HB1 := Lib.hid hb1
        clear hb1
        go_wp2_with fail
        have hcall := tableFault_good A n ca L f w1 (HA.out.keep HB1.out) HGA.out
        refine hcall.mono ?_
        clear hcall
        rintro e w2 ⟨rfl, h2⟩
        subst w2
        go_wp2_with fail
        have hcall := matCheck_good A n ca L f w1 (HA.out.keep HB1.out) HGA.out
        refine hcall.mono ?_
        clear hcall
        rintro e w2 ⟨rfl, hb2⟩
        have HB2 := Lib.hid (keep HB1.out hb2)
        clear hb2
        go_wp2_with fail
        have hcall := err_nil 0 true ⟨fun _ => rfl, fun _ => rfl⟩ w2
        refine hcall.mono ?_
        clear hcall
        rintro e w3 ⟨rfl, hb3⟩
        have HB3 := Lib.hid (keep HB2.out hb3)
        clear hb3
        go_wp2_with fail
        have hcall := starOf_walk A n ca f w3 (HSA.out.keep HB3.out) h1 h8 HGA.out.2
        refine hcall.mono ?_
        clear hcall
        rintro e w4 ⟨D4, c4, rfl, hM4, hb4⟩
        have HS_4 := Lib.hid hM4
        have HB4 := Lib.hid (keep HB3.out hb4)
        clear hM4 hb4
        go_wp2_with fail
        have hcall := matStar_ok A n ca L f w4 (HA.out.keep HB4.out) HGA.out
        refine hcall.mono ?_
        clear hcall
        rintro e w5 ⟨D5, c5, rfl, hM5, hb5⟩
        have HT_5 := Lib.hid hM5
        have HB5 := Lib.hid (keep HB4.out hb5)
        have HS_5 := Lib.hid (HS_4.out.keep hb5)
        clear hM5 hb5
        go_wp2_with fail
        have hcall := err_nil 0 true ⟨fun _ => rfl, fun _ => rfl⟩ w5
        refine hcall.mono ?_
        clear hcall
        rintro e w6 ⟨rfl, hb6⟩
        have HB6 := Lib.hid (keep HB5.out hb6)
        have HS_6 := Lib.hid (HS_5.out.keep hb6)
        have HT_6 := Lib.hid (HT_5.out.keep hb6)
        clear hb6
        go_wp2_with fail
        have hcall := rows_walk D5 D4 n n c5 c4 (fun _ => n) (fun _ => n) (starF n f) (starF n f) w6 HT_6.out HS_6.out (by omega) (by omega) (fun _ _ => by omega) (fun _ _ => by omega) true ⟨fun _ => ⟨rfl, fun _ _ => ⟨rfl, fun _ _ => rfl⟩⟩, fun _ => rfl⟩
        refine hcall.mono ?_
        clear hcall
        rintro e w7 ⟨rfl, k7, hw7⟩
        have HB7 : Hid (Below w.heap.size w w7) := by subst w7; exact below_drewN HB6.out k7
        clear hw7
        go_wp2_with fail
        have hcall := tableFault_bad B m cb M g w7 (HBB.out.keep HB7.out) HGB.out
        rw [HF.out] at hcall
        refine hcall.mono ?_
        clear hcall
        rintro e w8 ⟨rfl, h8⟩
        subst w8
        go_wp2_with fail
        have hcall := matMul_bad2 A B n m ca cb L M f g w7 (HA.out.keep HB7.out) (HBB.out.keep HB7.out) hm HGA.out HGB.out
        rw [HF.out] at hcall
        refine hcall.mono ?_
        clear hcall
        rintro e w8 ⟨rfl, hb8⟩
        have HB8 := Lib.hid (keep HB7.out hb8)
        clear hb8
        go_wp2_with fail
        have hcall := err_no 1 1 true ⟨fun _ => rfl, fun _ => rfl⟩ w8 (HG.out.keep HB8.out)
        refine hcall.mono ?_
        clear hcall
        rintro e w9 ⟨rfl, hb9⟩
        have HB9 := Lib.hid (keep HB8.out hb9)
        clear hb9
        go_wp2_with fail
        have hcall := rows_walk none none 0 0 0 0 (fun _ => 0) (fun _ => 0) (fun _ _ => 0) (fun _ _ => 0) w9 (fun j hj => absurd hj (by omega)) (fun j hj => absurd hj (by omega)) (by omega) (by omega) (fun i hi => absurd hi (by omega)) (fun i hi => absurd hi (by omega)) true ⟨fun _ => ⟨rfl, fun i hi => absurd hi (by omega)⟩, fun _ => rfl⟩
        refine hcall.mono ?_
        clear hcall
        rintro e w10 ⟨rfl, k10, hw10⟩
        have HB10 : Hid (Below w.heap.size w w10) := by subst w10; exact below_drewN HB9.out k10
        clear hw10
        rcases (show x < 1 ∨ (1 ≤ x ∧ 8 < x) ∨ (1 ≤ x ∧ x ≤ 8) by omega) with hx | ⟨hx0, hx⟩ | ⟨hx0, hx⟩
        · have HX : Hid (x < 1 ∨ 8 < x) := .inl hx
          go_wp2_with fail
          have hcall := matOne_bad x w10 HX.out
          refine hcall.mono ?_
          clear hcall
          rintro e w11 ⟨rfl, hb11⟩
          have HB11 := Lib.hid (keep HB10.out hb11)
          clear hb11
          go_wp2_with fail
          have hcall := err_no 1 1 true ⟨fun _ => rfl, fun _ => rfl⟩ w11 (HG.out.keep HB11.out)
          refine hcall.mono ?_
          clear hcall
          rintro e w12 ⟨rfl, hb12⟩
          have HB12 := Lib.hid (keep HB11.out hb12)
          clear hb12
          go_wp2_with fail
          have hcall := rows_walk none none 0 0 0 0 (fun _ => 0) (fun _ => 0) (fun _ _ => 0) (fun _ _ => 0) w12 (fun j hj => absurd hj (by omega)) (fun j hj => absurd hj (by omega)) (by omega) (by omega) (fun i hi => absurd hi (by omega)) (fun i hi => absurd hi (by omega)) true ⟨fun _ => ⟨rfl, fun i hi => absurd hi (by omega)⟩, fun _ => rfl⟩
          refine hcall.mono ?_
          clear hcall
          rintro e w13 ⟨rfl, k13, hw13⟩
          have HB13 : Hid (Below w.heap.size w w13) := by subst w13; exact below_drewN HB12.out k13
          clear hw13
          go_wp2_with fail
          go_ret
          exact ⟨rfl, HB13.out⟩
        · have HX : Hid (x < 1 ∨ 8 < x) := .inr hx
          go_wp2_with fail
          have hcall := matOne_bad x w10 HX.out
          refine hcall.mono ?_
          clear hcall
          rintro e w11 ⟨rfl, hb11⟩
          have HB11 := Lib.hid (keep HB10.out hb11)
          clear hb11
          go_wp2_with fail
          have hcall := err_no 1 1 true ⟨fun _ => rfl, fun _ => rfl⟩ w11 (HG.out.keep HB11.out)
          refine hcall.mono ?_
          clear hcall
          rintro e w12 ⟨rfl, hb12⟩
          have HB12 := Lib.hid (keep HB11.out hb12)
          clear hb12
          go_wp2_with fail
          have hcall := rows_walk none none 0 0 0 0 (fun _ => 0) (fun _ => 0) (fun _ _ => 0) (fun _ _ => 0) w12 (fun j hj => absurd hj (by omega)) (fun j hj => absurd hj (by omega)) (by omega) (by omega) (fun i hi => absurd hi (by omega)) (fun i hi => absurd hi (by omega)) true ⟨fun _ => ⟨rfl, fun i hi => absurd hi (by omega)⟩, fun _ => rfl⟩
          refine hcall.mono ?_
          clear hcall
          rintro e w13 ⟨rfl, k13, hw13⟩
          have HB13 : Hid (Below w.heap.size w w13) := by subst w13; exact below_drewN HB12.out k13
          clear hw13
          go_wp2_with fail
          go_ret
          exact ⟨rfl, HB13.out⟩
        · obtain ⟨q, rfl⟩ : ∃ q : Nat, x = q := ⟨x.toNat, by omega⟩
          have hq1 : 1 ≤ q := by omega
          have hq8 : q ≤ 8 := by omega
          go_wp2_with fail
          have hcall := oneOf_walk q q rfl w10 hq1 hq8
          refine hcall.mono ?_
          clear hcall
          rintro e w11 ⟨v11, rfl, hT11, hb11⟩
          obtain ⟨g11, c11, rfl, hM11⟩ := hT11.mat hq1
          have HU_11 := Lib.hid hM11
          have HB11 := Lib.hid (keep HB10.out hb11)
          clear hT11 hM11 hb11
          go_wp2_with fail
          have hcall := matOne_ok q q rfl w11 hq1 hq8
          refine hcall.mono ?_
          clear hcall
          rintro e w12 ⟨D12, c12, rfl, hM12, hb12⟩
          have HV_12 := Lib.hid hM12
          have HB12 := Lib.hid (keep HB11.out hb12)
          have HU_12 := Lib.hid (HU_11.out.keep hb12)
          clear hM12 hb12
          go_wp2_with fail
          have hcall := err_nil 0 true ⟨fun _ => rfl, fun _ => rfl⟩ w12
          refine hcall.mono ?_
          clear hcall
          rintro e w13 ⟨rfl, hb13⟩
          have HB13 := Lib.hid (keep HB12.out hb13)
          have HU_13 := Lib.hid (HU_12.out.keep hb13)
          have HV_13 := Lib.hid (HV_12.out.keep hb13)
          clear hb13
          go_wp2_with fail
          have hcall := rows_walk D12 (some ⟨g11, 0, none⟩) q q c12 c11 (fun _ => q) (fun _ => q) (oneF) (oneF) w13 HV_13.out HU_13.out (by omega) (by omega) (fun _ _ => by omega) (fun _ _ => by omega) true ⟨fun _ => ⟨rfl, fun _ _ => ⟨rfl, fun _ _ => rfl⟩⟩, fun _ => rfl⟩
          refine hcall.mono ?_
          clear hcall
          rintro e w14 ⟨rfl, k14, hw14⟩
          have HB14 : Hid (Below w.heap.size w w14) := by subst w14; exact below_drewN HB13.out k14
          clear hw14
          go_wp2_with fail
          go_ret
          exact ⟨rfl, HB14.out⟩
      · have HF := Lib.hid hf
        clear hf
        go_enter Tryd.func7, Tryd.ntmps7
        go_wp2_with fail
        have hcall := tabled_walk w
        refine hcall.mono ?_
        clear hcall
        rintro e w1 ⟨rfl, hb1⟩
        have HB1 := Lib.hid hb1
        clear hb1
        go_wp2_with fail
        have hcall := tableFault_good A n ca L f w1 (HA.out.keep HB1.out) HGA.out
        refine hcall.mono ?_
        clear hcall
        rintro e w2 ⟨rfl, h2⟩
        subst w2
        go_wp2_with fail
        have hcall := matCheck_good A n ca L f w1 (HA.out.keep HB1.out) HGA.out
        refine hcall.mono ?_
        clear hcall
        rintro e w2 ⟨rfl, hb2⟩
        have HB2 := Lib.hid (keep HB1.out hb2)
        clear hb2
        go_wp2_with fail
        have hcall := err_nil 0 true ⟨fun _ => rfl, fun _ => rfl⟩ w2
        refine hcall.mono ?_
        clear hcall
        rintro e w3 ⟨rfl, hb3⟩
        have HB3 := Lib.hid (keep HB2.out hb3)
        clear hb3
        go_wp2_with fail
        have hcall := starOf_walk A n ca f w3 (HSA.out.keep HB3.out) h1 h8 HGA.out.2
        refine hcall.mono ?_
        clear hcall
        rintro e w4 ⟨D4, c4, rfl, hM4, hb4⟩
        have HS_4 := Lib.hid hM4
        have HB4 := Lib.hid (keep HB3.out hb4)
        clear hM4 hb4
        go_wp2_with fail
        have hcall := matStar_ok A n ca L f w4 (HA.out.keep HB4.out) HGA.out
        refine hcall.mono ?_
        clear hcall
        rintro e w5 ⟨D5, c5, rfl, hM5, hb5⟩
        have HT_5 := Lib.hid hM5
        have HB5 := Lib.hid (keep HB4.out hb5)
        have HS_5 := Lib.hid (HS_4.out.keep hb5)
        clear hM5 hb5
        go_wp2_with fail
        have hcall := err_nil 0 true ⟨fun _ => rfl, fun _ => rfl⟩ w5
        refine hcall.mono ?_
        clear hcall
        rintro e w6 ⟨rfl, hb6⟩
        have HB6 := Lib.hid (keep HB5.out hb6)
        have HS_6 := Lib.hid (HS_5.out.keep hb6)
        have HT_6 := Lib.hid (HT_5.out.keep hb6)
        clear hb6
        go_wp2_with fail
        have hcall := rows_walk D5 D4 n n c5 c4 (fun _ => n) (fun _ => n) (starF n f) (starF n f) w6 HT_6.out HS_6.out (by omega) (by omega) (fun _ _ => by omega) (fun _ _ => by omega) true ⟨fun _ => ⟨rfl, fun _ _ => ⟨rfl, fun _ _ => rfl⟩⟩, fun _ => rfl⟩
        refine hcall.mono ?_
        clear hcall
        rintro e w7 ⟨rfl, k7, hw7⟩
        have HB7 : Hid (Below w.heap.size w w7) := by subst w7; exact below_drewN HB6.out k7
        clear hw7
        go_wp2_with fail
        have hcall := tableFault_bad B m cb M g w7 (HBB.out.keep HB7.out) HGB.out
        rw [HF.out] at hcall
        refine hcall.mono ?_
        clear hcall
        rintro e w8 ⟨rfl, h8⟩
        subst w8
        go_wp2_with fail
        have hcall := matMul_bad2 A B n m ca cb L M f g w7 (HA.out.keep HB7.out) (HBB.out.keep HB7.out) hm HGA.out HGB.out
        rw [HF.out] at hcall
        refine hcall.mono ?_
        clear hcall
        rintro e w8 ⟨rfl, hb8⟩
        have HB8 := Lib.hid (keep HB7.out hb8)
        clear hb8
        go_wp2_with fail
        have hcall := err_no 3 3 true ⟨fun _ => rfl, fun _ => rfl⟩ w8 (HG.out.keep HB8.out)
        refine hcall.mono ?_
        clear hcall
        rintro e w9 ⟨rfl, hb9⟩
        have HB9 := Lib.hid (keep HB8.out hb9)
        clear hb9
        go_wp2_with fail
        have hcall := rows_walk none none 0 0 0 0 (fun _ => 0) (fun _ => 0) (fun _ _ => 0) (fun _ _ => 0) w9 (fun j hj => absurd hj (by omega)) (fun j hj => absurd hj (by omega)) (by omega) (by omega) (fun i hi => absurd hi (by omega)) (fun i hi => absurd hi (by omega)) true ⟨fun _ => ⟨rfl, fun i hi => absurd hi (by omega)⟩, fun _ => rfl⟩
        refine hcall.mono ?_
        clear hcall
        rintro e w10 ⟨rfl, k10, hw10⟩
        have HB10 : Hid (Below w.heap.size w w10) := by subst w10; exact below_drewN HB9.out k10
        clear hw10
        rcases (show x < 1 ∨ (1 ≤ x ∧ 8 < x) ∨ (1 ≤ x ∧ x ≤ 8) by omega) with hx | ⟨hx0, hx⟩ | ⟨hx0, hx⟩
        · have HX : Hid (x < 1 ∨ 8 < x) := .inl hx
          go_wp2_with fail
          have hcall := matOne_bad x w10 HX.out
          refine hcall.mono ?_
          clear hcall
          rintro e w11 ⟨rfl, hb11⟩
          have HB11 := Lib.hid (keep HB10.out hb11)
          clear hb11
          go_wp2_with fail
          have hcall := err_no 1 1 true ⟨fun _ => rfl, fun _ => rfl⟩ w11 (HG.out.keep HB11.out)
          refine hcall.mono ?_
          clear hcall
          rintro e w12 ⟨rfl, hb12⟩
          have HB12 := Lib.hid (keep HB11.out hb12)
          clear hb12
          go_wp2_with fail
          have hcall := rows_walk none none 0 0 0 0 (fun _ => 0) (fun _ => 0) (fun _ _ => 0) (fun _ _ => 0) w12 (fun j hj => absurd hj (by omega)) (fun j hj => absurd hj (by omega)) (by omega) (by omega) (fun i hi => absurd hi (by omega)) (fun i hi => absurd hi (by omega)) true ⟨fun _ => ⟨rfl, fun i hi => absurd hi (by omega)⟩, fun _ => rfl⟩
          refine hcall.mono ?_
          clear hcall
          rintro e w13 ⟨rfl, k13, hw13⟩
          have HB13 : Hid (Below w.heap.size w w13) := by subst w13; exact below_drewN HB12.out k13
          clear hw13
          go_wp2_with fail
          go_ret
          exact ⟨rfl, HB13.out⟩
        · have HX : Hid (x < 1 ∨ 8 < x) := .inr hx
          go_wp2_with fail
          have hcall := matOne_bad x w10 HX.out
          refine hcall.mono ?_
          clear hcall
          rintro e w11 ⟨rfl, hb11⟩
          have HB11 := Lib.hid (keep HB10.out hb11)
          clear hb11
          go_wp2_with fail
          have hcall := err_no 1 1 true ⟨fun _ => rfl, fun _ => rfl⟩ w11 (HG.out.keep HB11.out)
          refine hcall.mono ?_
          clear hcall
          rintro e w12 ⟨rfl, hb12⟩
          have HB12 := Lib.hid (keep HB11.out hb12)
          clear hb12
          go_wp2_with fail
          have hcall := rows_walk none none 0 0 0 0 (fun _ => 0) (fun _ => 0) (fun _ _ => 0) (fun _ _ => 0) w12 (fun j hj => absurd hj (by omega)) (fun j hj => absurd hj (by omega)) (by omega) (by omega) (fun i hi => absurd hi (by omega)) (fun i hi => absurd hi (by omega)) true ⟨fun _ => ⟨rfl, fun i hi => absurd hi (by omega)⟩, fun _ => rfl⟩
          refine hcall.mono ?_
          clear hcall
          rintro e w13 ⟨rfl, k13, hw13⟩
          have HB13 : Hid (Below w.heap.size w w13) := by subst w13; exact below_drewN HB12.out k13
          clear hw13
          go_wp2_with fail
          go_ret
          exact ⟨rfl, HB13.out⟩
        · obtain ⟨q, rfl⟩ : ∃ q : Nat, x = q := ⟨x.toNat, by omega⟩
          have hq1 : 1 ≤ q := by omega
          have hq8 : q ≤ 8 := by omega
          go_wp2_with fail
          have hcall := oneOf_walk q q rfl w10 hq1 hq8
          refine hcall.mono ?_
          clear hcall
          rintro e w11 ⟨v11, rfl, hT11, hb11⟩
          obtain ⟨g11, c11, rfl, hM11⟩ := hT11.mat hq1
          have HU_11 := Lib.hid hM11
          have HB11 := Lib.hid (keep HB10.out hb11)
          clear hT11 hM11 hb11
          go_wp2_with fail
          have hcall := matOne_ok q q rfl w11 hq1 hq8
          refine hcall.mono ?_
          clear hcall
          rintro e w12 ⟨D12, c12, rfl, hM12, hb12⟩
          have HV_12 := Lib.hid hM12
          have HB12 := Lib.hid (keep HB11.out hb12)
          have HU_12 := Lib.hid (HU_11.out.keep hb12)
          clear hM12 hb12
          go_wp2_with fail
          have hcall := err_nil 0 true ⟨fun _ => rfl, fun _ => rfl⟩ w12
          refine hcall.mono ?_
          clear hcall
          rintro e w13 ⟨rfl, hb13⟩
          have HB13 := Lib.hid (keep HB12.out hb13)
          have HU_13 := Lib.hid (HU_12.out.keep hb13)
          have HV_13 := Lib.hid (HV_12.out.keep hb13)
          clear hb13
          go_wp2_with fail
          have hcall := rows_walk D12 (some ⟨g11, 0, none⟩) q q c12 c11 (fun _ => q) (fun _ => q) (oneF) (oneF) w13 HV_13.out HU_13.out (by omega) (by omega) (fun _ _ => by omega) (fun _ _ => by omega) true ⟨fun _ => ⟨rfl, fun _ _ => ⟨rfl, fun _ _ => rfl⟩⟩, fun _ => rfl⟩
          refine hcall.mono ?_
          clear hcall
          rintro e w14 ⟨rfl, k14, hw14⟩
          have HB14 : Hid (Below w.heap.size w w14) := by subst w14; exact below_drewN HB13.out k14
          clear hw14
          go_wp2_with fail
          go_ret
          exact ⟨rfl, HB14.out⟩
  · have HGA := Lib.hid hga
    clear hga
    rcases fault_is n L f with hf | hf
    · have HF := Lib.hid hf
      clear hf
      go_enter Tryd.func7, Tryd.ntmps7
      go_wp2_with fail
      have hcall := tabled_walk w
      refine hcall.mono ?_
      clear hcall
      rintro e w1 ⟨rfl, hb1⟩
      have HB1 := Lib.hid hb1
      clear hb1
      go_wp2_with fail
      have hcall := tableFault_bad A n ca L f w1 (HA.out.keep HB1.out) HGA.out
      rw [HF.out] at hcall
      refine hcall.mono ?_
      clear hcall
      rintro e w2 ⟨rfl, h2⟩
      subst w2
      go_wp2_with fail
      have hcall := matCheck_bad A n ca L f w1 (HA.out.keep HB1.out) hn HGA.out
      rw [HF.out] at hcall
      refine hcall.mono ?_
      clear hcall
      rintro e w2 ⟨rfl, hb2⟩
      have HB2 := Lib.hid (keep HB1.out hb2)
      clear hb2
      go_wp2_with fail
      have hcall := err_no 1 1 true ⟨fun _ => rfl, fun _ => rfl⟩ w2 (HG.out.keep HB2.out)
      refine hcall.mono ?_
      clear hcall
      rintro e w3 ⟨rfl, hb3⟩
      have HB3 := Lib.hid (keep HB2.out hb3)
      clear hb3
      go_wp2_with fail
      have hcall := matStar_bad A n ca L f w3 (HA.out.keep HB3.out) hn HGA.out
      rw [HF.out] at hcall
      refine hcall.mono ?_
      clear hcall
      rintro e w4 ⟨rfl, hb4⟩
      have HB4 := Lib.hid (keep HB3.out hb4)
      clear hb4
      go_wp2_with fail
      have hcall := err_no 1 1 true ⟨fun _ => rfl, fun _ => rfl⟩ w4 (HG.out.keep HB4.out)
      refine hcall.mono ?_
      clear hcall
      rintro e w5 ⟨rfl, hb5⟩
      have HB5 := Lib.hid (keep HB4.out hb5)
      clear hb5
      go_wp2_with fail
      have hcall := rows_walk none none 0 0 0 0 (fun _ => 0) (fun _ => 0) (fun _ _ => 0) (fun _ _ => 0) w5 (fun j hj => absurd hj (by omega)) (fun j hj => absurd hj (by omega)) (by omega) (by omega) (fun i hi => absurd hi (by omega)) (fun i hi => absurd hi (by omega)) true ⟨fun _ => ⟨rfl, fun i hi => absurd hi (by omega)⟩, fun _ => rfl⟩
      refine hcall.mono ?_
      clear hcall
      rintro e w6 ⟨rfl, k6, hw6⟩
      have HB6 : Hid (Below w.heap.size w w6) := by subst w6; exact below_drewN HB5.out k6
      clear hw6
      go_wp2_with fail
      have hcall := matMul_bad1 A B n m ca cb L f w6 (HA.out.keep HB6.out) hn HGA.out
      rw [HF.out] at hcall
      refine hcall.mono ?_
      clear hcall
      rintro e w7 ⟨rfl, hb7⟩
      have HB7 := Lib.hid (keep HB6.out hb7)
      clear hb7
      go_wp2_with fail
      have hcall := err_no 1 1 true ⟨fun _ => rfl, fun _ => rfl⟩ w7 (HG.out.keep HB7.out)
      refine hcall.mono ?_
      clear hcall
      rintro e w8 ⟨rfl, hb8⟩
      have HB8 := Lib.hid (keep HB7.out hb8)
      clear hb8
      go_wp2_with fail
      have hcall := rows_walk none none 0 0 0 0 (fun _ => 0) (fun _ => 0) (fun _ _ => 0) (fun _ _ => 0) w8 (fun j hj => absurd hj (by omega)) (fun j hj => absurd hj (by omega)) (by omega) (by omega) (fun i hi => absurd hi (by omega)) (fun i hi => absurd hi (by omega)) true ⟨fun _ => ⟨rfl, fun i hi => absurd hi (by omega)⟩, fun _ => rfl⟩
      refine hcall.mono ?_
      clear hcall
      rintro e w9 ⟨rfl, k9, hw9⟩
      have HB9 : Hid (Below w.heap.size w w9) := by subst w9; exact below_drewN HB8.out k9
      clear hw9
      rcases (show x < 1 ∨ (1 ≤ x ∧ 8 < x) ∨ (1 ≤ x ∧ x ≤ 8) by omega) with hx | ⟨hx0, hx⟩ | ⟨hx0, hx⟩
      · have HX : Hid (x < 1 ∨ 8 < x) := .inl hx
        go_wp2_with fail
        have hcall := matOne_bad x w9 HX.out
        refine hcall.mono ?_
        clear hcall
        rintro e w10 ⟨rfl, hb10⟩
        have HB10 := Lib.hid (keep HB9.out hb10)
        clear hb10
        go_wp2_with fail
        have hcall := err_no 1 1 true ⟨fun _ => rfl, fun _ => rfl⟩ w10 (HG.out.keep HB10.out)
        refine hcall.mono ?_
        clear hcall
        rintro e w11 ⟨rfl, hb11⟩
        have HB11 := Lib.hid (keep HB10.out hb11)
        clear hb11
        go_wp2_with fail
        have hcall := rows_walk none none 0 0 0 0 (fun _ => 0) (fun _ => 0) (fun _ _ => 0) (fun _ _ => 0) w11 (fun j hj => absurd hj (by omega)) (fun j hj => absurd hj (by omega)) (by omega) (by omega) (fun i hi => absurd hi (by omega)) (fun i hi => absurd hi (by omega)) true ⟨fun _ => ⟨rfl, fun i hi => absurd hi (by omega)⟩, fun _ => rfl⟩
        refine hcall.mono ?_
        clear hcall
        rintro e w12 ⟨rfl, k12, hw12⟩
        have HB12 : Hid (Below w.heap.size w w12) := by subst w12; exact below_drewN HB11.out k12
        clear hw12
        go_wp2_with fail
        go_ret
        exact ⟨rfl, HB12.out⟩
      · have HX : Hid (x < 1 ∨ 8 < x) := .inr hx
        go_wp2_with fail
        have hcall := matOne_bad x w9 HX.out
        refine hcall.mono ?_
        clear hcall
        rintro e w10 ⟨rfl, hb10⟩
        have HB10 := Lib.hid (keep HB9.out hb10)
        clear hb10
        go_wp2_with fail
        have hcall := err_no 1 1 true ⟨fun _ => rfl, fun _ => rfl⟩ w10 (HG.out.keep HB10.out)
        refine hcall.mono ?_
        clear hcall
        rintro e w11 ⟨rfl, hb11⟩
        have HB11 := Lib.hid (keep HB10.out hb11)
        clear hb11
        go_wp2_with fail
        have hcall := rows_walk none none 0 0 0 0 (fun _ => 0) (fun _ => 0) (fun _ _ => 0) (fun _ _ => 0) w11 (fun j hj => absurd hj (by omega)) (fun j hj => absurd hj (by omega)) (by omega) (by omega) (fun i hi => absurd hi (by omega)) (fun i hi => absurd hi (by omega)) true ⟨fun _ => ⟨rfl, fun i hi => absurd hi (by omega)⟩, fun _ => rfl⟩
        refine hcall.mono ?_
        clear hcall
        rintro e w12 ⟨rfl, k12, hw12⟩
        have HB12 : Hid (Below w.heap.size w w12) := by subst w12; exact below_drewN HB11.out k12
        clear hw12
        go_wp2_with fail
        go_ret
        exact ⟨rfl, HB12.out⟩
      · obtain ⟨q, rfl⟩ : ∃ q : Nat, x = q := ⟨x.toNat, by omega⟩
        have hq1 : 1 ≤ q := by omega
        have hq8 : q ≤ 8 := by omega
        go_wp2_with fail
        have hcall := oneOf_walk q q rfl w9 hq1 hq8
        refine hcall.mono ?_
        clear hcall
        rintro e w10 ⟨v10, rfl, hT10, hb10⟩
        obtain ⟨g10, c10, rfl, hM10⟩ := hT10.mat hq1
        have HU_10 := Lib.hid hM10
        have HB10 := Lib.hid (keep HB9.out hb10)
        clear hT10 hM10 hb10
        go_wp2_with fail
        have hcall := matOne_ok q q rfl w10 hq1 hq8
        refine hcall.mono ?_
        clear hcall
        rintro e w11 ⟨D11, c11, rfl, hM11, hb11⟩
        have HV_11 := Lib.hid hM11
        have HB11 := Lib.hid (keep HB10.out hb11)
        have HU_11 := Lib.hid (HU_10.out.keep hb11)
        clear hM11 hb11
        go_wp2_with fail
        have hcall := err_nil 0 true ⟨fun _ => rfl, fun _ => rfl⟩ w11
        refine hcall.mono ?_
        clear hcall
        rintro e w12 ⟨rfl, hb12⟩
        have HB12 := Lib.hid (keep HB11.out hb12)
        have HU_12 := Lib.hid (HU_11.out.keep hb12)
        have HV_12 := Lib.hid (HV_11.out.keep hb12)
        clear hb12
        go_wp2_with fail
        have hcall := rows_walk D11 (some ⟨g10, 0, none⟩) q q c11 c10 (fun _ => q) (fun _ => q) (oneF) (oneF) w12 HV_12.out HU_12.out (by omega) (by omega) (fun _ _ => by omega) (fun _ _ => by omega) true ⟨fun _ => ⟨rfl, fun _ _ => ⟨rfl, fun _ _ => rfl⟩⟩, fun _ => rfl⟩
        refine hcall.mono ?_
        clear hcall
        rintro e w13 ⟨rfl, k13, hw13⟩
        have HB13 : Hid (Below w.heap.size w w13) := by subst w13; exact below_drewN HB12.out k13
        clear hw13
        go_wp2_with fail
        go_ret
        exact ⟨rfl, HB13.out⟩
    · have HF := Lib.hid hf
      clear hf
      go_enter Tryd.func7, Tryd.ntmps7
      go_wp2_with fail
      have hcall := tabled_walk w
      refine hcall.mono ?_
      clear hcall
      rintro e w1 ⟨rfl, hb1⟩
      have HB1 := Lib.hid hb1
      clear hb1
      go_wp2_with fail
      have hcall := tableFault_bad A n ca L f w1 (HA.out.keep HB1.out) HGA.out
      rw [HF.out] at hcall
      refine hcall.mono ?_
      clear hcall
      rintro e w2 ⟨rfl, h2⟩
      subst w2
      go_wp2_with fail
      have hcall := matCheck_bad A n ca L f w1 (HA.out.keep HB1.out) hn HGA.out
      rw [HF.out] at hcall
      refine hcall.mono ?_
      clear hcall
      rintro e w2 ⟨rfl, hb2⟩
      have HB2 := Lib.hid (keep HB1.out hb2)
      clear hb2
      go_wp2_with fail
      have hcall := err_no 3 3 true ⟨fun _ => rfl, fun _ => rfl⟩ w2 (HG.out.keep HB2.out)
      refine hcall.mono ?_
      clear hcall
      rintro e w3 ⟨rfl, hb3⟩
      have HB3 := Lib.hid (keep HB2.out hb3)
      clear hb3
      go_wp2_with fail
      have hcall := matStar_bad A n ca L f w3 (HA.out.keep HB3.out) hn HGA.out
      rw [HF.out] at hcall
      refine hcall.mono ?_
      clear hcall
      rintro e w4 ⟨rfl, hb4⟩
      have HB4 := Lib.hid (keep HB3.out hb4)
      clear hb4
      go_wp2_with fail
      have hcall := err_no 3 3 true ⟨fun _ => rfl, fun _ => rfl⟩ w4 (HG.out.keep HB4.out)
      refine hcall.mono ?_
      clear hcall
      rintro e w5 ⟨rfl, hb5⟩
      have HB5 := Lib.hid (keep HB4.out hb5)
      clear hb5
      go_wp2_with fail
      have hcall := rows_walk none none 0 0 0 0 (fun _ => 0) (fun _ => 0) (fun _ _ => 0) (fun _ _ => 0) w5 (fun j hj => absurd hj (by omega)) (fun j hj => absurd hj (by omega)) (by omega) (by omega) (fun i hi => absurd hi (by omega)) (fun i hi => absurd hi (by omega)) true ⟨fun _ => ⟨rfl, fun i hi => absurd hi (by omega)⟩, fun _ => rfl⟩
      refine hcall.mono ?_
      clear hcall
      rintro e w6 ⟨rfl, k6, hw6⟩
      have HB6 : Hid (Below w.heap.size w w6) := by subst w6; exact below_drewN HB5.out k6
      clear hw6
      go_wp2_with fail
      have hcall := matMul_bad1 A B n m ca cb L f w6 (HA.out.keep HB6.out) hn HGA.out
      rw [HF.out] at hcall
      refine hcall.mono ?_
      clear hcall
      rintro e w7 ⟨rfl, hb7⟩
      have HB7 := Lib.hid (keep HB6.out hb7)
      clear hb7
      go_wp2_with fail
      have hcall := err_no 3 3 true ⟨fun _ => rfl, fun _ => rfl⟩ w7 (HG.out.keep HB7.out)
      refine hcall.mono ?_
      clear hcall
      rintro e w8 ⟨rfl, hb8⟩
      have HB8 := Lib.hid (keep HB7.out hb8)
      clear hb8
      go_wp2_with fail
      have hcall := rows_walk none none 0 0 0 0 (fun _ => 0) (fun _ => 0) (fun _ _ => 0) (fun _ _ => 0) w8 (fun j hj => absurd hj (by omega)) (fun j hj => absurd hj (by omega)) (by omega) (by omega) (fun i hi => absurd hi (by omega)) (fun i hi => absurd hi (by omega)) true ⟨fun _ => ⟨rfl, fun i hi => absurd hi (by omega)⟩, fun _ => rfl⟩
      refine hcall.mono ?_
      clear hcall
      rintro e w9 ⟨rfl, k9, hw9⟩
      have HB9 : Hid (Below w.heap.size w w9) := by subst w9; exact below_drewN HB8.out k9
      clear hw9
      rcases (show x < 1 ∨ (1 ≤ x ∧ 8 < x) ∨ (1 ≤ x ∧ x ≤ 8) by omega) with hx | ⟨hx0, hx⟩ | ⟨hx0, hx⟩
      · have HX : Hid (x < 1 ∨ 8 < x) := .inl hx
        go_wp2_with fail
        have hcall := matOne_bad x w9 HX.out
        refine hcall.mono ?_
        clear hcall
        rintro e w10 ⟨rfl, hb10⟩
        have HB10 := Lib.hid (keep HB9.out hb10)
        clear hb10
        go_wp2_with fail
        have hcall := err_no 1 1 true ⟨fun _ => rfl, fun _ => rfl⟩ w10 (HG.out.keep HB10.out)
        refine hcall.mono ?_
        clear hcall
        rintro e w11 ⟨rfl, hb11⟩
        have HB11 := Lib.hid (keep HB10.out hb11)
        clear hb11
        go_wp2_with fail
        have hcall := rows_walk none none 0 0 0 0 (fun _ => 0) (fun _ => 0) (fun _ _ => 0) (fun _ _ => 0) w11 (fun j hj => absurd hj (by omega)) (fun j hj => absurd hj (by omega)) (by omega) (by omega) (fun i hi => absurd hi (by omega)) (fun i hi => absurd hi (by omega)) true ⟨fun _ => ⟨rfl, fun i hi => absurd hi (by omega)⟩, fun _ => rfl⟩
        refine hcall.mono ?_
        clear hcall
        rintro e w12 ⟨rfl, k12, hw12⟩
        have HB12 : Hid (Below w.heap.size w w12) := by subst w12; exact below_drewN HB11.out k12
        clear hw12
        go_wp2_with fail
        go_ret
        exact ⟨rfl, HB12.out⟩
      · have HX : Hid (x < 1 ∨ 8 < x) := .inr hx
        go_wp2_with fail
        have hcall := matOne_bad x w9 HX.out
        refine hcall.mono ?_
        clear hcall
        rintro e w10 ⟨rfl, hb10⟩
        have HB10 := Lib.hid (keep HB9.out hb10)
        clear hb10
        go_wp2_with fail
        have hcall := err_no 1 1 true ⟨fun _ => rfl, fun _ => rfl⟩ w10 (HG.out.keep HB10.out)
        refine hcall.mono ?_
        clear hcall
        rintro e w11 ⟨rfl, hb11⟩
        have HB11 := Lib.hid (keep HB10.out hb11)
        clear hb11
        go_wp2_with fail
        have hcall := rows_walk none none 0 0 0 0 (fun _ => 0) (fun _ => 0) (fun _ _ => 0) (fun _ _ => 0) w11 (fun j hj => absurd hj (by omega)) (fun j hj => absurd hj (by omega)) (by omega) (by omega) (fun i hi => absurd hi (by omega)) (fun i hi => absurd hi (by omega)) true ⟨fun _ => ⟨rfl, fun i hi => absurd hi (by omega)⟩, fun _ => rfl⟩
        refine hcall.mono ?_
        clear hcall
        rintro e w12 ⟨rfl, k12, hw12⟩
        have HB12 : Hid (Below w.heap.size w w12) := by subst w12; exact below_drewN HB11.out k12
        clear hw12
        go_wp2_with fail
        go_ret
        exact ⟨rfl, HB12.out⟩
      · obtain ⟨q, rfl⟩ : ∃ q : Nat, x = q := ⟨x.toNat, by omega⟩
        have hq1 : 1 ≤ q := by omega
        have hq8 : q ≤ 8 := by omega
        go_wp2_with fail
        have hcall := oneOf_walk q q rfl w9 hq1 hq8
        refine hcall.mono ?_
        clear hcall
        rintro e w10 ⟨v10, rfl, hT10, hb10⟩
        obtain ⟨g10, c10, rfl, hM10⟩ := hT10.mat hq1
        have HU_10 := Lib.hid hM10
        have HB10 := Lib.hid (keep HB9.out hb10)
        clear hT10 hM10 hb10
        go_wp2_with fail
        have hcall := matOne_ok q q rfl w10 hq1 hq8
        refine hcall.mono ?_
        clear hcall
        rintro e w11 ⟨D11, c11, rfl, hM11, hb11⟩
        have HV_11 := Lib.hid hM11
        have HB11 := Lib.hid (keep HB10.out hb11)
        have HU_11 := Lib.hid (HU_10.out.keep hb11)
        clear hM11 hb11
        go_wp2_with fail
        have hcall := err_nil 0 true ⟨fun _ => rfl, fun _ => rfl⟩ w11
        refine hcall.mono ?_
        clear hcall
        rintro e w12 ⟨rfl, hb12⟩
        have HB12 := Lib.hid (keep HB11.out hb12)
        have HU_12 := Lib.hid (HU_11.out.keep hb12)
        have HV_12 := Lib.hid (HV_11.out.keep hb12)
        clear hb12
        go_wp2_with fail
        have hcall := rows_walk D11 (some ⟨g10, 0, none⟩) q q c11 c10 (fun _ => q) (fun _ => q) (oneF) (oneF) w12 HV_12.out HU_12.out (by omega) (by omega) (fun _ _ => by omega) (fun _ _ => by omega) true ⟨fun _ => ⟨rfl, fun _ _ => ⟨rfl, fun _ _ => rfl⟩⟩, fun _ => rfl⟩
        refine hcall.mono ?_
        clear hcall
        rintro e w13 ⟨rfl, k13, hw13⟩
        have HB13 : Hid (Below w.heap.size w w13) := by subst w13; exact below_drewN HB12.out k13
        clear hw13
        go_wp2_with fail
        go_ret
        exact ⟨rfl, HB13.out⟩

end Go.Proofs.YtdilajieimbdnaaDoor

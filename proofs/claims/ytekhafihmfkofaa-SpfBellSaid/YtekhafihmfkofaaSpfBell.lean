/- SpfBell: how far each is, the nearest first, is what all think in the end, round by round, and what a star of the costs tells. For all arguments; no condition. -/
import Derived.Test.YtekhafihmfkofaaNearest
import Derived.Test.YtekhafihmfkofaaStar
import Derived.Test.YtekhafihmfkofaaOwnLk
namespace Go.Proofs.Ytekhafihmfkofaa
open Go.RowKit
set_option linter.unusedVariables false

theorem cost_table {n m : Nat} {a b c : Nat → Int} (hr : Right n m a b c) : Ranged n (costF m a b c) := fun i j _ _ => costV_ranged hr i j

/-- The star of the costs tells how far. -/
theorem star_end {n m t : Nat} {a b c : Nat → Int} (hr : Right n m a b c) (ht : t < n) {i : Nat} (hi : i < n) : starF n (costF m a b c) t i = endF t a b c m i := by
  have hK := cost_m hr
  have hR := cost_table hr
  have hD := far_end hr ht
  refine Int.le_antisymm (hD.most hK (f := fun i => starF n (costF m a b c) t i) (Int.le_of_eq (star_diag hR n (Nat.le_refl _) t ht)) (fun i hi => (star_ranged hR n (Nat.le_refl _) t i ht hi).2) (fun i k hi hk _ _ => ?_) i hi) ?_
  · have h1 := star_tri hR ht hk hi
    have h2 := star_table hR k i hk hi n
    have h3 := hK.back i k hi hk
    show starF n (costF m a b c) t i ≤ costF m a b c i k + starF n (costF m a b c) t k
    have h4 : starF n (costF m a b c) k i ≤ costF m a b c k i := h2
    omega
  · have hs := star_steps hR n (Nat.le_refl _) t i ht hi
    have h : ∀ {x y : Nat} {s : Int}, Steps n (costF m a b c) x y s → endF t a b c m y ≤ endF t a b c m x + s := by
      intro x y s h
      induction h with
      | none i hi => omega
      | more i j k s hi hjk ih =>
        have h1 := hD.tri j i hjk.fst hi
        have h2 := hK.back j i hjk.fst hi
        omega
    have h1 := h hs
    rw [hD.zero] at h1
    have h2 : starF n (costF m a b c) t i = starTo (costF m a b c) n t i := rfl
    omega

set_option maxRecDepth 100000 in
set_option maxHeartbeats 4000000 in
theorem spfBell_walk (x : Int) (A : Option Addr) (m cp : Nat) (a b c : Nat → Int) (y : Int) (w : World) (hl : Lnk w A m a b c) (hm : m ≤ 9223372036854775807) :
    Calls Try.prog 8 #[.int .i64 x, .slice A m cp, .int .i64 y] w fun e w' => e = .returned (.bool true) ∧ Below w.heap.size w w' := by
  have HL := Lib.hid hl
  clear hl
  go_enter Try.func8, Try.ntmps8
  go_wp2_with fail
  refine (nearest_walk w).mono ?_
  rintro e w1 ⟨rfl, hb1⟩
  have HB1 := Lib.hid hb1
  clear hb1
  go_wp2_with fail
  rcases bellRun_bad_aux x y m a b c with ⟨hg, h0, h1⟩ | ⟨v, -, hf⟩
  · obtain ⟨n, rfl, hn1, hn8, hr⟩ := good_nat hg
    obtain ⟨t, rfl⟩ : ∃ t : Nat, y = t := ⟨y.toNat, by omega⟩
    have ht : t < n := by omega
    have ht' : (t : Int) < n := by omega
    have hn8' : (n : Int) ≤ 8 := by omega
    have HG := Lib.hid hg
    have HR := Lib.hid hr
    clear hg hr h0 h1
    have hcall := spfFar_ok n t n t rfl rfl A m cp a b c w1 (HL.out.keep HB1.out) hm HG.out ht
    refine hcall.mono ?_
    clear hcall
    rintro e w2 ⟨g, rfl, -, hrow, hb2⟩
    have HX := Lib.hid hrow
    have HB2 := Lib.hid (keep HB1.out hb2)
    clear hrow hb2 HB1
    go_wp2_with fail
    have hcall := bellRun_ok n t n t rfl rfl A m cp a b c w2 (HL.out.keep HB2.out) hm HG.out ht
    refine hcall.mono ?_
    clear hcall
    rintro e w3 ⟨g3, q, rfl, -, hrow, -, hb3⟩
    have HY := Lib.hid hrow
    have HX3 := Lib.hid (HX.out.below hb3 HX.out.lt)
    have HB3 := Lib.hid (keep HB2.out hb3)
    clear hrow hb3 HB2 HX
    go_wp2_with fail
    have hcall := costs_ok n n rfl A m cp a b c w3 (HL.out.keep HB3.out) hm HG.out
    refine hcall.mono ?_
    clear hcall
    rintro e w4 ⟨g4, cg, B, C, rfl, -, hat, hb4⟩
    have HM := Lib.hid (hat.mat' hn1)
    have HX4 := Lib.hid (HX3.out.below hb4 HX3.out.lt)
    have HY4 := Lib.hid (HY.out.below hb4 HY.out.lt)
    have HB4 := Lib.hid (keep HB3.out hb4)
    clear hat hb4 HB3 HX3 HY
    go_wp2_with fail
    have hcall := matStar_ok (some ⟨g4, 0, none⟩) n cg (fun _ => n) (costF m a b c) w4 HM.out (Good.mk' hn1 hn8 (cost_table HR.out))
    refine hcall.mono ?_
    clear hcall
    rintro e w5 ⟨D, cD, rfl, hS, hb5⟩
    have HX5 := Lib.hid (HX4.out.below hb5 HX4.out.lt)
    have HY5 := Lib.hid (HY4.out.below hb5 HY4.out.lt)
    have HB5 := Lib.hid (keep HB4.out hb5)
    obtain ⟨ad, Ai, ci, rfl, hal, hac, hav⟩ := hS t ht
    have HV := Lib.hid hav
    clear hS hb5 HB4 HX4 HY4 hav hal
    go_wp2_with fail
    have hcall := ints_walk (some ⟨g, 0, none⟩) (some ⟨g3, 0, none⟩) n n n n _ _ w5 HX5.out.vec HY5.out.vec (by omega) (by omega) true ⟨fun _ => ⟨rfl, fun _ _ => rfl⟩, fun _ => rfl⟩
    refine hcall.mono ?_
    clear hcall
    rintro e w6 ⟨rfl, k6, rfl⟩
    go_wp2_with fail
    have hcall := ints_walk Ai (some ⟨g, 0, none⟩) n n ci n _ _ (w5.drewN k6) (HV.out.drewN k6) (HX5.out.drewN k6).vec (by omega) (by omega) true ⟨fun _ => ⟨rfl, fun i hi => star_end HR.out ht hi⟩, fun _ => rfl⟩
    refine hcall.mono ?_
    clear hcall
    rintro e w7 ⟨rfl, k7, rfl⟩
    go_wp2_with fail
    go_ret
    exact ⟨rfl, below_drewN HB5.out _⟩
  · have HFR := Lib.hid hf
    clear hf
    refine (spfFar_bad x y A m cp a b c w1 (HL.out.keep HB1.out) hm v HFR.out).mono ?_
    rintro e w2 ⟨rfl, hb2⟩
    have HB2 := Lib.hid (keep HB1.out hb2)
    clear hb2 HB1
    go_wp2_with fail
    go_ret
    exact ⟨rfl, HB2.out⟩

end Go.Proofs.Ytekhafihmfkofaa

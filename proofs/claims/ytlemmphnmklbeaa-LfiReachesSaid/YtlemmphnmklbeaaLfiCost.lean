/- A link of the net costs something else. -/
import Derived.Test.YtlemmphnmklbeaaLfiAnew
import Derived.Test.YtlemmphnmklbeaaCosts
import Derived.Deep.RegionHeld3
namespace Go.Proofs.Ytlemmphnmklbeaa
open Go.RowKit
set_option linter.unusedVariables false

attribute [local go_sem high] run_min_pair run_max_pair

/-- What the exchange of a link's cost reads. -/
def CostL (A : LAd) (n x y : Nat) (w : World) : Prop :=
  w.cell? ⟨A.p, 1, none⟩ = some (.slice (some ⟨A.gC, 0, none⟩) n A.cC) ∧ w.cell? ⟨A.gC, x, none⟩ = some (.slice (some ⟨A.BC x, 0, none⟩) n (A.CC x)) ∧ w.cell? ⟨A.gC, y, none⟩ = some (.slice (some ⟨A.BC y, 0, none⟩) n (A.CC y))

set_option maxRecDepth 100000 in
set_option maxHeartbeats 1000000 in
theorem lfiCost (lab : Nat → List Nat) (A : LAd) (n t : Nat) (s : LS) (a b c : Int) (w : World) (h : LN w lab A n t s) (h8 : n ≤ 8) (hI : LInv n t s) :
    Calls Try.prog 11 #[.pointer (some ⟨A.p, 0, none⟩), .int .i64 a, .int .i64 b, .int .i64 c] w fun e w' => e = .returned (errV (s.costE n a b c)) ∧ LN w' lab A n t (s.cost n t a b c) ∧ AF lab w lab w' := by
  have h8' : (n : Int) ≤ 8 := by omega
  have HA := Lib.hid h
  by_cases h0 : nearE n s.K a b = 0
  · have HC := Lib.hid (lfiNear_ok (w := w) h h8 h0)
    by_cases hc : c < 1 ∨ 15 < c
    · have es : s.costE n a b c = 1 := if_pos ⟨h0, hc⟩
      have en : s.cost n t a b c = s := by
        unfold LS.cost
        rw [es, if_neg (by omega)]
      rw [es, en]
      clear h hI es en h0
      rcases (show c < 1 ∨ (1 ≤ c ∧ 15 < c) by omega) with h1 | ⟨h1, h2⟩
      · have d1 : decide (c < 1) = true := decide_eq_true h1
        clear hc
        go_enter Try.func11, Try.ntmps11
        go_wp2_with fail
        refine HC.out.mono ?_
        rintro e w1 ⟨rfl, h1⟩
        subst w1
        go_wp2_with fail
        go_ret
        exact ⟨rfl, HA.out, AF.refl _ _⟩
      · have d1 : decide (c < 1) = false := decide_eq_false (by omega)
        have d2 : decide (15 < c) = true := decide_eq_true h2
        clear hc
        go_enter Try.func11, Try.ntmps11
        go_wp2_with fail
        refine HC.out.mono ?_
        rintro e w1 ⟨rfl, h1⟩
        subst w1
        go_wp2_with fail
        go_ret
        exact ⟨rfl, HA.out, AF.refl _ _⟩
    · have es : s.costE n a b c = 0 := by
        unfold LS.costE
        rw [if_neg fun h => hc h.2, h0]
      obtain ⟨x, y, rfl, rfl, hx, hy, hne, hk⟩ := near_zero h0
      have e1 : ((x : Int)).toNat = x := by omega
      have e2 : ((y : Int)).toNat = y := by omega
      have e3 : (min (x : Int) y).toNat = min x y := by omega
      have e4 : (max (x : Int) y).toNat = max x y := by omega
      have en : s.cost n t x y c = ((s.dear x y c).anew n t (min x y)).anew n t (max x y) := by
        unfold LS.cost
        rw [es, if_pos rfl, e1, e2, e3, e4]
      rw [es, en]
      have hx' : (x : Int) < n := by omega
      have hy' : (y : Int) < n := by omega
      have d1 : decide (c < 1) = false := decide_eq_false (by omega)
      have d2 : decide (15 < c) = false := decide_eq_false (by omega)
      obtain ⟨-, f1, -, -⟩ := h.netCell
      have g1 := h.cst.cell hx
      have g2 := h.cst.cell hy
      have hx0 := (h.cstr x hx).cell hy
      have hx1 := (h.cstr y hy).cell hx
      have hz0 := (h.cstr x hx).frozen y
      have hz1 := (h.cstr y hy).frozen x
      have hB1 : A.p ≠ A.BC x := lab_ne h.lp (h.lc x hx) (by simp)
      have hB2 : A.p ≠ A.BC y := lab_ne h.lp (h.lc y hy) (by simp)
      have hB3 : A.gC ≠ A.BC x := lab_ne h.lC (h.lc x hx) (by simp)
      have hB4 : A.gC ≠ A.BC y := lab_ne h.lC (h.lc y hy) (by simp)
      have hB5 : A.BC x ≠ A.BC y := lab_ne (h.lc x hx) (h.lc y hy) (by simpa using hne)
      have hB6 : A.BC y ≠ A.BC x := hB5.symm
      have HN : Hid (LN ((w.setCell ⟨A.BC x, y, none⟩ (.int .i64 c)).setCell ⟨A.BC y, x, none⟩ (.int .i64 c)) lab A n t (s.dear x y c)) := (h.setCost hx y c).setCost hy x c
      have HF : Hid (AF lab w lab ((w.setCell ⟨A.BC x, y, none⟩ (.int .i64 c)).setCell ⟨A.BC y, x, none⟩ (.int .i64 c))) := ((AF.refl lab w).setCell (h.lc x hx) (by simp) y _).setCell (h.lc y hy) (by simp) x _
      have hI1 : LInv n t (s.dear x y c) := hI.dear hne (by omega) (by omega)
      have HI1 := Lib.hid hI1
      have hmn : min x y < n := by omega
      have hmx : max x y < n := by omega
      have HI2 : Hid (LInv n t ((s.dear x y c).anew n t (min x y))) := hI1.anew hmn
      have HS0 : Hid (CostL A n x y w) := ⟨f1, g1, g2⟩
      have HS1 : Hid (CostL A n x y (w.setCell ⟨A.BC x, y, none⟩ (.int .i64 c)).drew) := ⟨(cell_far hB1).trans f1, (cell_far hB3).trans g1, (cell_far hB3).trans g2⟩
      have HS2 : Hid (CostL A n x y ((w.setCell ⟨A.BC x, y, none⟩ (.int .i64 c)).setCell ⟨A.BC y, x, none⟩ (.int .i64 c)).drew) := ⟨(cell_far hB2).trans ((cell_far hB1).trans f1), (cell_far hB4).trans ((cell_far hB3).trans g1), (cell_far hB4).trans ((cell_far hB3).trans g2)⟩
      have HMM : Hid (min x y < n ∧ max x y < n) := ⟨hmn, hmx⟩
      clear h hI hI1 es en h0 e1 e2 e3 e4 hc hk hne hB1 hB2 hB3 hB4 hmn hmx
      go_enter Try.func11, Try.ntmps11
      go_wp2_with fail
      refine HC.out.mono ?_
      rintro e w1 ⟨rfl, h1⟩
      subst w1
      go_wp2_with fail
      go_region_held3 (fun w' => w'.cell? ⟨A.p, 1, none⟩ = some (.slice (some ⟨A.gC, 0, none⟩) n A.cC) ∧ w'.cell? ⟨A.gC, x, none⟩ = some (.slice (some ⟨A.BC x, 0, none⟩) n (A.CC x)) ∧ w'.cell? ⟨A.gC, y, none⟩ = some (.slice (some ⟨A.BC y, 0, none⟩) n (A.CC y))) (first | exact HS1.out | exact HS2.out | go_keep) (fail)
      go_wp2_with fail
      have HN1 := Lib.hid (HN.out.drewN 1)
      have HF1 : Hid (AF lab w lab (((w.setCell ⟨A.BC x, y, none⟩ (.int .i64 c)).setCell ⟨A.BC y, x, none⟩ (.int .i64 c)).drewN 1)) := HF.out.trans ⟨(Touch.refl _ _).drew, fun _ _ => rfl⟩
      refine (lfiAnew lab A n t (s.dear x y c) (min x y) _ (by omega) _ HN1.out h8 HMM.out.1 HI1.out.cost (fun r k hr hk => HI1.out.hrd0 hr hk)).mono ?_
      rintro e w2 ⟨rfl, hn2, hf2⟩
      have HN2 := Lib.hid hn2
      have HF2 := Lib.hid (HF1.out.trans hf2)
      clear hn2 hf2 HN1 HF1 HN HF HS0 HS1 HS2 f1 g1 g2 hx0 hx1 hz0 hz1
      go_wp2_with fail
      refine (lfiAnew lab A n t ((s.dear x y c).anew n t (min x y)) (max x y) _ (by omega) _ HN2.out h8 HMM.out.2 HI2.out.cost (fun r k hr hk => HI2.out.hrd0 hr hk)).mono ?_
      rintro e w3 ⟨rfl, hn3, hf3⟩
      have HN3 := Lib.hid hn3
      have HF3 := Lib.hid (HF2.out.trans hf3)
      clear hn3 hf3 HN2 HF2
      go_wp2_with fail
      go_ret
      exact ⟨rfl, HN3.out, HF3.out⟩
  · obtain ⟨k, hk, hk0⟩ : ∃ k, nearE n s.K a b = k ∧ k ≠ 0 := ⟨_, rfl, h0⟩
    have es : s.costE n a b c = k := by
      unfold LS.costE
      rw [if_neg (fun h => h0 h.1), hk]
    have en : s.cost n t a b c = s := by
      unfold LS.cost
      rw [es, if_neg hk0]
    have HC := Lib.hid (lfiNear_bad (w := w) h h8 hk hk0)
    have hev : errV k = errNo k := if_neg hk0
    rw [es, en, hev]
    clear h hI h0 hk es en hk0 hev
    go_enter Try.func11, Try.ntmps11
    go_wp2_with fail
    refine HC.out.mono ?_
    rintro e w1 ⟨rfl, h1⟩
    subst w1
    go_wp2_with fail
    go_ret
    exact ⟨rfl, HA.out, AF.refl _ _⟩

end Go.Proofs.Ytlemmphnmklbeaa

/- DampTells: the walk. -/
import Derived.Test.YtdilajieimbdnaaDoorDampRef2
import Derived.Test.YtdilajieimbdnaaDoorDampLaw
import Derived.Test.YtdilajieimbdnaaDoorErr
import Derived.Test.YtdilajieimbdnaaDoorVecB
import Derived.Test.YtdilajieimbdnaaDoorTail
namespace Go.Proofs.YtdilajieimbdnaaDoor
open Go.RowKit
set_option linter.unusedVariables false

/-- The two damps, in the middle of the law. -/
def Damps (w wr : World) (g m : Nat) (half now pen : Int) (held : Bool) : Prop :=
  Damp wr g half now pen held ∧ Blk wr m 33 (dampCells half now pen held) ∧ Below w.heap.size w wr ∧ w.heap.size ≤ g ∧ w.heap.size ≤ m ∧ g ≠ m ∧ g < wr.heap.size

theorem Damp.far {w : World} {g m i : Nat} {half now pen : Int} {held : Bool} (h : Damp w g half now pen held) (hgm : g ≠ m) (v : Value) : Damp (w.setCell ⟨m, i, none⟩ v) g half now pen held :=
  ⟨h.blk.far hgm v, h.h1, h.h2, h.h3, h.h4, h.h6, h.h7⟩

theorem Damps.on {w wr w5 : World} {g m : Nat} {half now pen : Int} {held : Bool} (h : Damps w wr g m half now pen held) (hb : Below wr.heap.size wr w5) : Damps w w5 g m half now pen held := by
  obtain ⟨h1, h2, h3, h4, h5, h6, h7⟩ := h
  exact ⟨h1.below hb h7, h2.below hb h2.lt, keep h3 hb, h4, h5, h6, Nat.lt_of_lt_of_le h7 hb.size⟩

set_option maxRecDepth 100000 in
set_option maxHeartbeats 4000000 in
theorem dampTells_walk (half : Int) (A : Option Addr) (na ca : Nat) (s : Nat → Bool) (B : Option Addr) (nb cb : Nat) (t : Nat → Int) (w : World) (hg : ErrT w) (hA : VecB w A na s) (hna : na ≤ 9223372036854775807) (hB : Vec w B nb t) (hnb : nb ≤ 9223372036854775807) :
    Calls Tryd.prog 3 #[.int .i64 half, .slice A na ca, .slice B nb cb] w fun e w' => e = .returned (.bool true) ∧ Below w.heap.size w w' := by
  have HG := Lib.hid hg
  have HA := Lib.hid hA
  have HB := Lib.hid hB
  clear hg hA hB
  by_cases hh : half < 1 ∨ 1000 < half
  · have HH := Lib.hid hh
    rcases (show half < 1 ∨ (¬ half < 1 ∧ 1000 < half) by omega) with h1 | ⟨h1, h2⟩
    all_goals
      go_enter Tryd.func3, Tryd.ntmps3
      go_wp2_with fail
      refine (damped_walk w).mono ?_
      rintro e w1 ⟨rfl, hb1⟩
      go_wp2_with fail
      refine (dampNew_bad half _ HH.out).mono ?_
      rintro e w2 ⟨rfl, rfl⟩
      have HB1 := Lib.hid hb1
      clear hb1 hh
      go_wp2_with fail
      refine (err_no 1 1 true ⟨fun _ => rfl, fun _ => rfl⟩ _ (HG.out.keep HB1.out)).mono ?_
      rintro e w3 ⟨rfl, hb3⟩
      have HB3 := Lib.hid (keep HB1.out hb3)
      clear hb3
      go_wp2_with fail
      go_ret
      exact ⟨rfl, HB3.out⟩
  · have h1 : 1 ≤ half := by omega
    have h2 : half ≤ 1000 := by omega
    clear hh
    go_enter Tryd.func3, Tryd.ntmps3
    go_wp2_with fail
    refine (damped_walk w).mono ?_
    rintro e w1 ⟨rfl, hb1⟩
    go_wp2_with fail
    refine (dampNew_ok half _ h1 h2).mono ?_
    rintro e w2 ⟨rfl, hd2, hb2⟩
    obtain ⟨g, hgw⟩ : ∃ g, g = w1.heap.size := ⟨_, rfl⟩
    rw [← hgw] at hd2 hb2 ⊢
    have hgl : w.heap.size ≤ g := by rw [hgw]; exact hb1.size
    have HB2 : Hid (Below w.heap.size w w2) := keep hb1 (by rw [← hgw]; exact hb2)
    have HD2 := Lib.hid hd2
    clear hb1 hb2 hgw hd2
    go_wp2_with fail
    refine (err_nil 0 true ⟨fun _ => rfl, fun _ => rfl⟩ _).mono ?_
    rintro e w3 ⟨rfl, hb3⟩
    have HB3 := Lib.hid (keep HB2.out hb3)
    have HD3 := Lib.hid (HD2.out.below hb3 HD2.out.blk.lt)
    clear hb3 HD2 HB2
    go_wp2_with fail
    obtain ⟨m, hm⟩ : ∃ m, m = w3.heap.size := ⟨_, rfl⟩
    have hST : Damps w (w3.alloc (.cells (dampCells half 0 0 false) 33)) g m half 0 0 false := by
      have h3 := HD3.out.blk.lt
      have hs := HB3.out.size
      refine ⟨HD3.out.below ((Below.refl _ _).alloc (Nat.le_refl _) _) h3, by rw [hm]; exact Blk.new _ _ _, HB3.out.alloc hs _, hgl, by omega, by omega, by simp; omega⟩
    have HST := Lib.hid hST
    rw [← hm]
    clear hST hm HD3 HB3 hgl
    go_loopw [13] (fun v wr => ∃ k : Nat, k ≤ na ∧ k ≤ nb ∧ v = .int .i64 k ∧ ∃ now pen held, Damps w wr g m half now pen held) (fun v _ => na - (intOf v).toNat)
    case atStart => exact ⟨0, by omega, by omega, rfl, 0, 0, false, HST.out⟩
    case round =>
      obtain ⟨k, hka, hkb, rfl, now, pen, held, hst⟩ := hrel
      clear HST
      have HST := Lib.hid hst
      obtain ⟨hd, hblk, hb, hgl, hml, hgm, hgs⟩ := hst
      have hms : m < wr.heap.size := hblk.lt
      have HBr := Lib.hid hb
      by_cases hlt : k < na ∧ k < nb
      · obtain ⟨hlt1, hlt2⟩ := hlt
        obtain ⟨ada, rfl, hada, hca0⟩ := HA.out k hlt1
        obtain ⟨adb, rfl, hadb, hcb0⟩ := HB.out k hlt2
        obtain ⟨x, hx⟩ : ∃ x, t k = x := ⟨_, rfl⟩
        rw [hx] at hcb0
        obtain ⟨y, hy⟩ : ∃ y, s k = y := ⟨_, rfl⟩
        rw [hy] at hca0
        clear hx hy
        have HCA : ∀ w', Below w.heap.size w w' → w'.cell? (ada.add k) = some (.bool y) := fun w' h => (h.cell (by rw [block_of_add]; exact hada)).trans hca0
        have HCB : ∀ w', Below w.heap.size w w' → w'.cell? (adb.add k) = some (.int .i64 x) := fun w' h => (h.cell (by rw [block_of_add]; exact hadb)).trans hcb0
        have HCA := Lib.hid HCA
        have HCB := Lib.hid HCB
        have hca := HCA.out _ HBr.out
        have hcb := HCB.out _ HBr.out
        clear hca0 hcb0 hada hadb
        have hlt1' : (k : Int) < na := by omega
        have hlt2' : (k : Int) < nb := by omega
        have cm0 := hblk.cell 0
        have cm1 := hblk.cell 1
        have cm2 := hblk.cell 2
        have cm3 := hblk.cell 3
        have fm := fun i => hblk.frozen i
        simp at cm0 cm1 cm2 cm3
        have HD := Lib.hid hd
        have HBK := Lib.hid hblk
        clear hd hblk hb
        by_cases ht : now ≤ x ∧ x ≤ 1099511627776
        · obtain ⟨ht1, ht2⟩ := ht
          have hd1 : decide (x < now) = false := decide_eq_false (by omega)
          have hd2 : decide (1099511627776 < x) = false := decide_eq_false (by omega)
          cases y with
          | true =>
            go_wp2_with fail
            go_quiet (fail)
            go_wp2_with fail
            refine wp_region_quiet_tail 5 (by kernel_rfl) (by kernel_rfl) ?_
            simp only [List.take_succ_cons, List.take_zero, List.drop_succ_cons, List.drop_zero]
            repeat (go_big_quiet_step (fail))
            refine wpQuiet_nil ?_
            go_wp2_with fail
            refine (passed_walk half now pen x held _ h1 h2 HD.out.h3 HD.out.h6 HD.out.h7 ht1 ht2).mono ?_
            rintro e w5 ⟨rfl, hb5⟩
            have hb5' : Below wr.heap.size wr w5 := ⟨hb5.os, hb5.tape, hb5.output, hb5.size, hb5.block⟩
            obtain ⟨hd5, hk5, hbw5, -, -, -, hgs5⟩ := HST.out.on hb5'
            have fm5 : ∀ i, w5.frozen? ⟨m, i, none⟩ = false := fun i => hk5.frozen i
            have hm0 := hk5.cell 0
            have hm1 := hk5.cell 1
            have hm2 := hk5.cell 2
            have hm3 := hk5.cell 3
            simp at hm0 hm1 hm2 hm3
            have hb6 : Below w.heap.size w ((((w5.setCell ⟨m, 0, none⟩ (.int .i64 half)).setCell ⟨m, 1, none⟩ (.int .i64 x)).setCell ⟨m, 2, none⟩ (.int .i64 (penAt half now pen x))).setCell ⟨m, 3, none⟩ (.bool (heldAt half now pen x held))) := (((hbw5.setCell hml _).setCell hml _).setCell hml _).setCell hml _
            have hca5 := HCA.out _ hb6
            have hcb5 := HCB.out _ hb6
            have hk6 := (((hk5.set_ 0 (.int .i64 half)).set_ 1 (.int .i64 x)).set_ 2 (.int .i64 (penAt half now pen x))).set_ 3 (.bool (heldAt half now pen x held))
            have hd6 := (((hd5.far (i := 0) hgm (.int .i64 half)).far (i := 1) hgm (.int .i64 x)).far (i := 2) hgm (.int .i64 (penAt half now pen x))).far (i := 3) hgm (.bool (heldAt half now pen x held))
            have e6 : ((((dampCells half now pen held).setIfInBounds 0 (.int .i64 half)).setIfInBounds 1 (.int .i64 x)).setIfInBounds 2 (.int .i64 (penAt half now pen x))).setIfInBounds 3 (.bool (heldAt half now pen x held)) = dampCells half x (penAt half now pen x) (heldAt half now pen x held) := by simp [dampCells]
            rw [e6] at hk6
            have HK6 := Lib.hid hk6
            clear e6
            have HD6 := Lib.hid hd6
            have HB6 := Lib.hid hb6
            clear hb5 hb5' hb6 hk6 hd6 hd5 hbw5 hk5 hgs5
            go_wp2_with fail
            refine (dampAt_ok g half now pen x held _ HD6.out ht1 ht2).mono ?_
            rintro e w7 ⟨rfl, hd7, hg7⟩
            have hst7 : Damps w w7 g m half x (penAt half now pen x) (heldAt half now pen x held) :=
              ⟨hd7, HK6.out.grown hg7 (fun e => hgm (Option.some.inj e).symm), below_only HB6.out hg7 HB6.out.size hgl, hgl, hml, hgm, hd7.blk.lt⟩
            have HST7 := Lib.hid hst7
            clear hd7 hg7 hst7 hca5 hcb5 fm5 hm0 hm1 hm2 hm3 HD6 HK6 HB6
            go_wp2_with fail
            refine (err_nil 0 true ⟨fun _ => rfl, fun _ => rfl⟩ _).mono ?_
            rintro e w8 ⟨rfl, hb8⟩
            have hst8 := HST7.out.on hb8
            have HST8 := Lib.hid hst8
            have hm0 := hst8.2.1.cell 0
            have hm1 := hst8.2.1.cell 1
            have hm2 := hst8.2.1.cell 2
            have hm3 := hst8.2.1.cell 3
            simp at hm0 hm1 hm2 hm3
            clear hb8 hst8 HST7
            have HST9 := Lib.hid (HST8.out.on ((Below.refl _ _).alloc (Nat.le_refl _) (.cells (dampCells half x (penAt half now pen x) (heldAt half now pen x held)) 33)))
            clear HST8
            go_wp2_with fail
            go_roundw
            case rel => exact ⟨k + 1, by omega, by omega, by go_num, _, _, _, HST9.out⟩
            case measure => simp [intOf]; omega
          | false =>
            go_wp2_with fail
            go_quiet (fail)
            go_wp2_with fail
            refine wp_region_quiet_tail 5 (by kernel_rfl) (by kernel_rfl) ?_
            simp only [List.take_succ_cons, List.take_zero, List.drop_succ_cons, List.drop_zero]
            repeat (go_big_quiet_step (fail))
            refine wpQuiet_nil ?_
            go_wp2_with fail
            refine (passed_walk half now pen x held _ h1 h2 HD.out.h3 HD.out.h6 HD.out.h7 ht1 ht2).mono ?_
            rintro e w5 ⟨rfl, hb5⟩
            have hb5' : Below wr.heap.size wr w5 := ⟨hb5.os, hb5.tape, hb5.output, hb5.size, hb5.block⟩
            obtain ⟨hd5, hk5, hbw5, -, -, -, hgs5⟩ := HST.out.on hb5'
            have fm5 : ∀ i, w5.frozen? ⟨m, i, none⟩ = false := fun i => hk5.frozen i
            have hm0 := hk5.cell 0
            have hm1 := hk5.cell 1
            have hm2 := hk5.cell 2
            have hm3 := hk5.cell 3
            simp at hm0 hm1 hm2 hm3
            have hb6 : Below w.heap.size w ((((w5.setCell ⟨m, 0, none⟩ (.int .i64 half)).setCell ⟨m, 1, none⟩ (.int .i64 x)).setCell ⟨m, 2, none⟩ (.int .i64 (penAt half now pen x))).setCell ⟨m, 3, none⟩ (.bool (heldAt half now pen x held))) := (((hbw5.setCell hml _).setCell hml _).setCell hml _).setCell hml _
            have hca5 := HCA.out _ hb6
            have hcb5 := HCB.out _ hb6
            have hk6 := (((hk5.set_ 0 (.int .i64 half)).set_ 1 (.int .i64 x)).set_ 2 (.int .i64 (penAt half now pen x))).set_ 3 (.bool (heldAt half now pen x held))
            have hd6 := (((hd5.far (i := 0) hgm (.int .i64 half)).far (i := 1) hgm (.int .i64 x)).far (i := 2) hgm (.int .i64 (penAt half now pen x))).far (i := 3) hgm (.bool (heldAt half now pen x held))
            have e6 : ((((dampCells half now pen held).setIfInBounds 0 (.int .i64 half)).setIfInBounds 1 (.int .i64 x)).setIfInBounds 2 (.int .i64 (penAt half now pen x))).setIfInBounds 3 (.bool (heldAt half now pen x held)) = dampCells half x (penAt half now pen x) (heldAt half now pen x held) := by simp [dampCells]
            rw [e6] at hk6
            have HK6 := Lib.hid hk6
            clear e6
            have HD6 := Lib.hid hd6
            have HB6 := Lib.hid hb6
            clear hb5 hb5' hb6 hk6 hd6 hd5 hbw5 hk5 hgs5
            go_wp2_with fail
            refine (dampFlap_ok g half now pen x held _ HD6.out ht1 ht2).mono ?_
            rintro e w7 ⟨rfl, hd7, hg7⟩
            obtain ⟨p', hp'⟩ : ∃ p, flapped (penAt half now pen x) = p := ⟨_, rfl⟩
            rw [hp'] at hd7
            obtain ⟨h', hh'⟩ : ∃ h, (heldAt half now pen x held || decide (2000 < p')) = h := ⟨_, rfl⟩
            rw [hh'] at hd7
            have hk7 := HK6.out.grown hg7 (fun e => hgm (Option.some.inj e).symm)
            have hb7 := below_only HB6.out hg7 HB6.out.size hgl
            have HP1 : Hid (0 ≤ penAt half now pen x ∧ penAt half now pen x ≤ 12000) := ⟨penAt_lo HD.out.h6, Int.le_trans (penAt_hi HD.out.h6) HD.out.h7⟩
            have HP := Lib.hid hp'
            have HH := Lib.hid hh'
            have HD7 := Lib.hid hd7
            have HK7 := Lib.hid hk7
            have HB7 := Lib.hid hb7
            clear hd7 hg7 hk7 hb7 hca5 hcb5 fm5 hm0 hm1 hm2 hm3 HD6 HK6 HB6 hp' hh'
            go_wp2_with fail
            refine (err_nil 0 true ⟨fun _ => rfl, fun _ => rfl⟩ _).mono ?_
            rintro e w8 ⟨rfl, hb8⟩
            have hd8 := HD7.out.below hb8 HD7.out.blk.lt
            have hk8 := HK7.out.below hb8 HK7.out.lt
            have hm0 := hk8.cell 0
            have hm1 := hk8.cell 1
            have hm2 := hk8.cell 2
            have hm3 := hk8.cell 3
            simp at hm0 hm1 hm2 hm3
            have HD8 := Lib.hid hd8
            have HK8 := Lib.hid hk8
            have HB8 := Lib.hid (keep HB7.out hb8)
            clear hb8 hd8 hk8 HD7 HK7 HB7
            go_wp2_with fail
            refine (flapped_walk half x (penAt half now pen x) (heldAt half now pen x held) _ HP1.out.1 HP1.out.2 h' (by rw [HP.out]; exact HH.out.symm)).mono ?_
            rintro e w9 ⟨rfl, hb9⟩
            rw [HP.out]
            have hd9 := HD8.out.below hb9 HD8.out.blk.lt
            have hk9 := HK8.out.below hb9 HK8.out.lt
            have hbw9 := keep HB8.out hb9
            have fm9 : ∀ i, w9.frozen? ⟨m, i, none⟩ = false := fun i => hk9.frozen i
            have hn0 := hk9.cell 0
            have hn1 := hk9.cell 1
            have hn2 := hk9.cell 2
            have hn3 := hk9.cell 3
            simp at hn0 hn1 hn2 hn3
            have hkX := (((hk9.set_ 0 (.int .i64 half)).set_ 1 (.int .i64 x)).set_ 2 (.int .i64 p')).set_ 3 (.bool h')
            have hdX := (((hd9.far (i := 0) hgm (.int .i64 half)).far (i := 1) hgm (.int .i64 x)).far (i := 2) hgm (.int .i64 p')).far (i := 3) hgm (.bool h')
            have hbX : Below w.heap.size w ((((w9.setCell ⟨m, 0, none⟩ (.int .i64 half)).setCell ⟨m, 1, none⟩ (.int .i64 x)).setCell ⟨m, 2, none⟩ (.int .i64 p')).setCell ⟨m, 3, none⟩ (.bool h')) := (((hbw9.setCell hml _).setCell hml _).setCell hml _).setCell hml _
            have eX : ((((dampCells half x (penAt half now pen x) (heldAt half now pen x held)).setIfInBounds 0 (.int .i64 half)).setIfInBounds 1 (.int .i64 x)).setIfInBounds 2 (.int .i64 p')).setIfInBounds 3 (.bool h') = dampCells half x p' h' := by simp [dampCells]
            rw [eX] at hkX
            have HSTX : Hid (Damps w ((((w9.setCell ⟨m, 0, none⟩ (.int .i64 half)).setCell ⟨m, 1, none⟩ (.int .i64 x)).setCell ⟨m, 2, none⟩ (.int .i64 p')).setCell ⟨m, 3, none⟩ (.bool h')) g m half x p' h') := ⟨hdX, hkX, hbX, hgl, hml, hgm, hdX.blk.lt⟩
            clear hkX hdX hbX eX hb9 hd9 hk9 hbw9 hm0 hm1 hm2 hm3
            go_wp2_with fail
            go_roundw
            case rel => exact ⟨k + 1, by omega, by omega, by go_num, _, _, _, HSTX.out⟩
            case measure => simp [intOf]; omega
        · have hbt : BadTime now x := by unfold BadTime; omega
          have HBT := Lib.hid hbt
          clear hbt
          rcases (show x < now ∨ (¬ x < now ∧ 1099511627776 < x) by omega) with k1 | ⟨k1, k2⟩
          · have hd1 : decide (x < now) = true := decide_eq_true k1
            cases y with
            | true =>
              clear ht
              go_wp2_with fail
              go_quiet (fail)
              go_wp2_with fail
              refine (dampAt_bad g half now pen x held _ (HST.out.on (below_drewN (Below.refl _ _) _)).1 HBT.out).mono ?_
              rintro e w5 ⟨rfl, h5⟩
              subst w5
              go_wp2_with fail
              refine (err_no 1 1 true ⟨fun _ => rfl, fun _ => rfl⟩ _ (HG.out.keep (below_drewN HBr.out _))).mono ?_
              rintro e w6 ⟨rfl, hb6⟩
              have hb6' : Below wr.heap.size wr w6 := ⟨hb6.os, hb6.tape, hb6.output, hb6.size, hb6.block⟩
              have hst6 := HST.out.on hb6'
              have HST6 := Lib.hid hst6
              have hm0 := hst6.2.1.cell 0
              have hm1 := hst6.2.1.cell 1
              have hm2 := hst6.2.1.cell 2
              have hm3 := hst6.2.1.cell 3
              simp at hm0 hm1 hm2 hm3
              clear hb6 hb6' hst6
              go_wp2_with fail
              have HST9 := Lib.hid (HST6.out.on ((Below.refl _ _).alloc (Nat.le_refl _) (.cells #[.int .i64 0, .int .i64 0, .int .i64 0, .bool false] 33)))
              clear HST6
              go_roundw
              case rel => exact ⟨k + 1, by omega, by omega, by go_num, _, _, _, HST9.out⟩
              case measure => simp [intOf]; omega
            | false =>
              clear ht
              go_wp2_with fail
              go_quiet (fail)
              go_wp2_with fail
              refine (dampFlap_bad g half now pen x held _ (HST.out.on (below_drewN (Below.refl _ _) _)).1 HBT.out).mono ?_
              rintro e w5 ⟨rfl, h5⟩
              subst w5
              go_wp2_with fail
              refine (err_no 1 1 true ⟨fun _ => rfl, fun _ => rfl⟩ _ (HG.out.keep (below_drewN HBr.out _))).mono ?_
              rintro e w6 ⟨rfl, hb6⟩
              have hb6' : Below wr.heap.size wr w6 := ⟨hb6.os, hb6.tape, hb6.output, hb6.size, hb6.block⟩
              have HST6 := Lib.hid (HST.out.on hb6')
              clear hb6 hb6'
              go_wp2_with fail
              go_roundw
              case rel => exact ⟨k + 1, by omega, by omega, by go_num, _, _, _, HST6.out⟩
              case measure => simp [intOf]; omega
          · have hd1 : decide (x < now) = false := decide_eq_false k1
            have hd2 : decide (1099511627776 < x) = true := decide_eq_true k2
            cases y with
            | true =>
              clear ht
              go_wp2_with fail
              go_quiet (fail)
              go_wp2_with fail
              refine (dampAt_bad g half now pen x held _ (HST.out.on (below_drewN (Below.refl _ _) _)).1 HBT.out).mono ?_
              rintro e w5 ⟨rfl, h5⟩
              subst w5
              go_wp2_with fail
              refine (err_no 1 1 true ⟨fun _ => rfl, fun _ => rfl⟩ _ (HG.out.keep (below_drewN HBr.out _))).mono ?_
              rintro e w6 ⟨rfl, hb6⟩
              have hb6' : Below wr.heap.size wr w6 := ⟨hb6.os, hb6.tape, hb6.output, hb6.size, hb6.block⟩
              have hst6 := HST.out.on hb6'
              have HST6 := Lib.hid hst6
              have hm0 := hst6.2.1.cell 0
              have hm1 := hst6.2.1.cell 1
              have hm2 := hst6.2.1.cell 2
              have hm3 := hst6.2.1.cell 3
              simp at hm0 hm1 hm2 hm3
              clear hb6 hb6' hst6
              go_wp2_with fail
              have HST9 := Lib.hid (HST6.out.on ((Below.refl _ _).alloc (Nat.le_refl _) (.cells #[.int .i64 0, .int .i64 0, .int .i64 0, .bool false] 33)))
              clear HST6
              go_roundw
              case rel => exact ⟨k + 1, by omega, by omega, by go_num, _, _, _, HST9.out⟩
              case measure => simp [intOf]; omega
            | false =>
              clear ht
              go_wp2_with fail
              go_quiet (fail)
              go_wp2_with fail
              refine (dampFlap_bad g half now pen x held _ (HST.out.on (below_drewN (Below.refl _ _) _)).1 HBT.out).mono ?_
              rintro e w5 ⟨rfl, h5⟩
              subst w5
              go_wp2_with fail
              refine (err_no 1 1 true ⟨fun _ => rfl, fun _ => rfl⟩ _ (HG.out.keep (below_drewN HBr.out _))).mono ?_
              rintro e w6 ⟨rfl, hb6⟩
              have hb6' : Below wr.heap.size wr w6 := ⟨hb6.os, hb6.tape, hb6.output, hb6.size, hb6.block⟩
              have HST6 := Lib.hid (HST.out.on hb6')
              clear hb6 hb6'
              go_wp2_with fail
              go_roundw
              case rel => exact ⟨k + 1, by omega, by omega, by go_num, _, _, _, HST6.out⟩
              case measure => simp [intOf]; omega
      · have HBr := Lib.hid hb
        rcases (show ¬ k < na ∨ (k < na ∧ ¬ k < nb) by omega) with h | ⟨h, h'⟩
        · obtain rfl : k = na := by omega
          clear hd hblk hb
          go_wp2_with fail
          go_ret
          exact ⟨rfl, HBr.out⟩
        · obtain rfl : k = nb := by omega
          have h'' : (k : Int) < na := by omega
          clear hd hblk hb
          go_wp2_with fail
          go_ret
          exact ⟨rfl, HBr.out⟩

end Go.Proofs.YtdilajieimbdnaaDoor

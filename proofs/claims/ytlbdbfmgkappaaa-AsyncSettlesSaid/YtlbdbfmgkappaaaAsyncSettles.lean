/- AsyncSettles: all come to it. For all arguments; no condition. -/
import Derived.Test.YtlbdbfmgkappaaaAsyncEnd
import Derived.Test.YtlbdbfmgkappaaaVecB
import Derived.Deep.Cut
import Derived.Deep.CutRange
import Derived.Deep.DeepCutAuto
namespace Go.Proofs.Ytlbdbfmgkappaaa
open Go.RowKit
set_option linter.unusedVariables false

set_option maxRecDepth 100000 in
set_option maxHeartbeats 4000000 in
theorem asyncSettles_walk (x : Int) (A : Option Addr) (m cp : Nat) (a b c : Nat → Int) (y : Int) (T : Option Addr) (nt ct : Nat) (ft : Nat → Bool) (P : Option Addr) (na ca : Nat) (fa : Nat → Int) (Q : Option Addr) (nb cb : Nat) (fb : Nat → Int) (w : World) (hl : Lnk w A m a b c) (hm : m ≤ 9223372036854775807) (hT : VecB w T nt ft) (hnt : nt ≤ 9223372036854775807) (hP : Vec w P na fa) (hna : na ≤ 9223372036854775807) (hQ : Vec w Q nb fb) (hnb : nb ≤ 9223372036854775807) :
    Calls Try.prog 3 #[.int .i64 x, .slice A m cp, .int .i64 y, .slice T nt ct, .slice P na ca, .slice Q nb cb] w fun e w' => e = .returned (.bool true) ∧ Below w.heap.size w w' := by
  have HL := Lib.hid hl
  have HT := Lib.hid hT
  have HPP := Lib.hid hP
  have HQQ := Lib.hid hQ
  clear hl hT hP hQ
  go_enter Try.func3, Try.ntmps3
  go_wp2_with fail
  refine (sent_walk w).mono ?_
  rintro e w1 ⟨rfl, hb1⟩
  have HB1 := Lib.hid hb1
  clear hb1
  go_wp2_with fail
  rcases bellRun_bad_aux x y m a b c with ⟨hg, h0, h1⟩ | ⟨v, hv, hf⟩
  · obtain ⟨n, rfl, hn1, hn8, hr⟩ := good_nat hg
    obtain ⟨t, rfl⟩ : ∃ t : Nat, y = t := ⟨y.toNat, by omega⟩
    have ht : t < n := by omega
    have hn8' : (n : Int) ≤ 8 := by omega
    have HG := Lib.hid hg
    have HR := Lib.hid hr
    clear hg hr h0 h1
    have hcall := asyncNew_ok n n rfl A m cp t t rfl a b c w1 (HL.out.keep HB1.out) hm HG.out ht
    refine hcall.mono ?_
    clear hcall
    rintro e w2 ⟨lab, Ad, rfl, hA, hlow, hb2⟩
    obtain ⟨p0, hp0⟩ : ∃ p0, Ad.p = p0 := ⟨_, rfl⟩
    obtain ⟨K, hK⟩ : ∃ K, costF m a b c = K := ⟨_, rfl⟩
    obtain ⟨D, hD⟩ : ∃ D, endF t a b c m = D := ⟨_, rfl⟩
    obtain ⟨Z, hZ⟩ : ∃ Z, rounds t a b c m (startF t) = Z := ⟨_, rfl⟩
    have HN2 : Hid (NetOk w p0 n t K D w2 (fun _ => True)) := by
      rw [← hK, ← hD]
      rw [hK] at hA
      rw [← hK] at hA
      exact ⟨lab, Ad, _, hp0, hA, AInv.new (cost_m HR.out) (end_k HR.out), fun b hb => hlow b (Nat.lt_of_lt_of_le hb HB1.out.size), keep HB1.out hb2, trivial⟩
    have HK : Hid (CostM n K) := by rw [← hK]; exact cost_m HR.out
    have HRD : Hid (RoundK n t K D D) := by rw [← hK, ← hD]; exact end_k HR.out
    have HRZ : Hid (∀ r, RoundK n t K (Z r) (Z (r + 1))) := by rw [← hK, ← hZ]; exact rounds_k HR.out _
    have HD0 : Hid (∀ i, i < n → 0 ≤ D i) := by rw [← hD]; exact fun i hi => (end_ranged HR.out i hi).1
    have HZ0 : Hid (∀ r i, i < n → 0 ≤ Z r i) := by rw [← hZ]; exact fun r i hi => (rounds_ranged HR.out (startF_ranged t n) r i hi).1
    have HZS : Hid (∀ i, i < n → Z 0 i = startF t i) := by rw [← hZ]; exact fun i hi => rfl
    have HZE : Hid (∀ i, i < n → Z n i = D i) := by rw [← hZ, ← hD]; exact fun i hi => end_fewer HR.out ht (by omega) i hi
    have HDD := Lib.hid hD
    rw [hp0]
    clear hA hlow hb2 hp0 hK hD hZ HB1
    go_wp2_with fail
    go_loopw [16] (fun q wr => ∃ k : Nat, k ≤ nt ∧ q = .int .i64 k ∧ NetOk w p0 n t K D wr (fun _ => True)) (fun q _ => nt - (intOf q).toNat)
    case atStart => exact ⟨0, by omega, rfl, HN2.out⟩
    case round =>
      obtain ⟨k, hk, rfl, hN⟩ := hrel
      have HN := Lib.hid hN
      clear hN HN2
      by_cases hin : k < nt ∧ k < na ∧ k < nb
      · obtain ⟨hi1, hi2, hi3⟩ := hin
        have hi1' : (k : Int) < nt := by omega
        have hi2' : (k : Int) < na := by omega
        have hi3' : (k : Int) < nb := by omega
        obtain ⟨adt, rfl, -, ct1⟩ := HT.out.keep HN.out.bel k hi1
        obtain ⟨ada, rfl, -, ca1⟩ := HPP.out.keep HN.out.bel k hi2
        obtain ⟨adb, rfl, -, cb1⟩ := HQQ.out.keep HN.out.bel k hi3
        cases hft : ft k with
        | true =>
          rw [hft] at ct1
          clear hft
          go_wp2_with fail
          refine wp_region_quiet_tail 9 (by kernel_rfl) (by kernel_rfl) ?_
          simp only [List.take_succ_cons, List.take_zero, List.drop_succ_cons, List.drop_zero]
          repeat (go_big_quiet_step (fail))
          refine wpQuiet_nil ?_
          go_wp2_with fail
          refine ((HN.out.drewN 1).take hn8 HK.out HRD.out HD0.out (fa k) (fb k) (G := fun _ => True) fun _ _ _ _ => trivial).mono ?_
          rintro e w6 ⟨v, rfl, hN6⟩
          have HN6 := Lib.hid hN6
          clear hN6 HN ct1 ca1 cb1
          go_wp2_with fail
          go_roundw
          case rel => exact ⟨k + 1, by omega, by go_num, HN6.out⟩
          case measure => simp [intOf]; omega
        | false =>
          rw [hft] at ct1
          clear hft
          go_wp2_with fail
          refine wp_region_quiet_tail 9 (by kernel_rfl) (by kernel_rfl) ?_
          simp only [List.take_succ_cons, List.take_zero, List.drop_succ_cons, List.drop_zero]
          repeat (go_big_quiet_step (fail))
          refine wpQuiet_nil ?_
          go_wp2_with fail
          refine ((HN.out.drewN 1).send hn8 (fa k) (fb k) (G := fun _ => True) fun _ _ _ => trivial).mono ?_
          rintro e w6 ⟨v, rfl, hN6⟩
          have HN6 := Lib.hid hN6
          clear hN6 HN ct1 ca1 cb1
          go_wp2_with fail
          go_roundw
          case rel => exact ⟨k + 1, by omega, by go_num, HN6.out⟩
          case measure => simp [intOf]; omega
      · have HB : Hid (∀ {Q : Prop}, (decide (k < nt) = false → Q) → (decide (k < nt) = true → (k : Int) < nt → decide (k < na) = false → Q) → (decide (k < nt) = true → (k : Int) < nt → decide (k < na) = true → (k : Int) < na → decide (k < nb) = false → Q) → Q) := by
          intro Q q1 q2 q3
          by_cases h1 : k < nt
          · by_cases h2 : k < na
            · have h3 : ¬ k < nb := fun h => hin ⟨h1, h2, h⟩
              exact q3 (decide_eq_true h1) (by omega) (decide_eq_true h2) (by omega) (decide_eq_false h3)
            · exact q2 (decide_eq_true h1) (by omega) (decide_eq_false h2)
          · exact q1 (decide_eq_false h1)
        clear hin
        have hlim : (decide (k < nt) = false) ∨ (decide (k < nt) = true ∧ (k : Int) < nt ∧ decide (k < na) = false) ∨ (decide (k < nt) = true ∧ (k : Int) < nt ∧ decide (k < na) = true ∧ (k : Int) < na ∧ decide (k < nb) = false) :=
          HB.out (fun h => .inl h) (fun h1 h2 h3 => .inr (.inl ⟨h1, h2, h3⟩)) (fun h1 h2 h3 h4 h5 => .inr (.inr ⟨h1, h2, h3, h4, h5⟩))
        clear HB
        go_upto_region 8 with (fail)
        go_cut [62] (fun b wx => wx = wr ∧ b = .bool false)
        case first =>
          rcases hlim with e1 | ⟨e1, h1, e2⟩ | ⟨e1, h1, e2, h2, e3⟩
          all_goals
            go_wp2_with fail
            go_meet
            exact ⟨rfl, rfl⟩
        case rest =>
          obtain ⟨hwc, rfl⟩ := hcut
          subst wc
          clear hlim
          have HNR := Lib.hid (HN.out.imp (G := PhiR n K Z 0) fun s hI _ => PhiR.start hI HZS.out)
          clear HN
          go_wp2_with fail
          go_loopw [17] (fun q wr => ∃ r : Nat, r ≤ n + 1 ∧ q = .int .i64 r ∧ NetOk w p0 n t K D wr (PhiR n K Z r)) (fun q _ => n + 1 - (intOf q).toNat)
          case atStart => exact ⟨0, by omega, rfl, HNR.out⟩
          case round =>
            obtain ⟨r, hr, rfl, hN⟩ := hrel
            have HN := Lib.hid hN
            clear hN HNR
            by_cases hrn : r ≤ n
            · have hrn' : (r : Int) ≤ n := by omega
              have HNA := Lib.hid (HN.out.imp (G := PhiD n K (Z (r - 1)) r 0 0) fun s hI h => h.drain)
              clear HN
              go_wp2_with fail
              go_loopw [18] (fun q wr => ∃ a : Nat, a ≤ n ∧ q = .int .i64 a ∧ NetOk w p0 n t K D wr (PhiD n K (Z (r - 1)) r a 0)) (fun q _ => n - (intOf q).toNat)
              case atStart => exact ⟨0, by omega, rfl, HNA.out⟩
              case round =>
                obtain ⟨a1, ha1, rfl, hN⟩ := hrel
                have HN := Lib.hid hN
                clear hN HNA
                by_cases han : a1 < n
                · have han' : (a1 : Int) < n := by omega
                  go_wp2_with fail
                  go_loopw [19] (fun q wr => ∃ b : Nat, b ≤ n ∧ q = .int .i64 b ∧ NetOk w p0 n t K D wr (PhiD n K (Z (r - 1)) r a1 b)) (fun q _ => n - (intOf q).toNat)
                  case atStart => exact ⟨0, by omega, rfl, HN.out⟩
                  case round =>
                    obtain ⟨b1, hb1, rfl, hN⟩ := hrel
                    have HNB := Lib.hid hN
                    clear hN HN
                    by_cases hbn : b1 < n
                    · have hbn' : (b1 : Int) < n := by omega
                      have HNE := Lib.hid (HNB.out.imp (G := PhiE n K (Z (r - 1)) r a1 b1 0) fun s hI h => h.first hI)
                      clear HNB
                      go_wp2_with fail
                      go_loopw [20] (fun q wr => ∃ k : Nat, k ≤ 20 ∧ q = .int .i64 k ∧ NetOk w p0 n t K D wr (PhiE n K (Z (r - 1)) r a1 b1 k)) (fun q _ => 20 - (intOf q).toNat)
                      case atStart => exact ⟨0, by omega, rfl, HNE.out⟩
                      case round =>
                        obtain ⟨k1, hk1, rfl, hN⟩ := hrel
                        have HNK := Lib.hid hN
                        clear hN HNE
                        by_cases hkn : k1 < 20
                        · have hkn' : (k1 : Int) < 20 := by omega
                          go_wp2_with fail
                          refine (HNK.out.take hn8 HK.out HRD.out HD0.out a1 b1 (G := PhiE n K (Z (r - 1)) r a1 b1 (k1 + 1)) fun s hI h hf => h.take hI hf).mono ?_
                          rintro e w6 ⟨v, rfl, hN6⟩
                          have HN6 := Lib.hid hN6
                          clear hN6 HNK
                          go_wp2_with fail
                          go_roundw
                          case rel => exact ⟨k1 + 1, by omega, by go_num, HN6.out⟩
                          case measure => simp [intOf]; omega
                        · have ek : k1 = 20 := by omega
                          subst ek
                          go_wp2_with fail
                          go_roundw
                          case rel => exact ⟨b1 + 1, by omega, by go_num, HNK.out.imp fun s hI h => h.next⟩
                          case measure => simp [intOf]; omega
                    · have eb : b1 = n := by omega
                      have HX := Lib.hid (HNB.out.imp (G := PhiD n K (Z (r - 1)) r (a1 + 1) 0) fun s hI h => by rw [eb] at h; exact h.row)
                      have d1 : decide (b1 < n) = false := decide_eq_false hbn
                      have d2 : decide ((b1 : Int) < n) = false := decide_eq_false (by omega)
                      have d3 : decide (n ≤ b1) = true := decide_eq_true (by omega)
                      have HEB := Lib.hid eb
                      clear eb HNB
                      go_wp2_with fail
                      go_roundw
                      case rel => exact ⟨a1 + 1, by omega, by go_num, HX.out⟩
                      case measure => simp [intOf]; omega
                · have ea : a1 = n := by omega
                  have HX := Lib.hid (HN.out.imp (G := PhiS n K (Z r) 0 0) fun s hI h => by rw [ea] at h; exact h.all hI HK.out HRZ.out HZ0.out)
                  have d1 : decide (a1 < n) = false := decide_eq_false han
                  have d2 : decide ((a1 : Int) < n) = false := decide_eq_false (by omega)
                  have d3 : decide (n ≤ a1) = true := decide_eq_true (by omega)
                  have HEA := Lib.hid ea
                  clear ea HN
                  go_wp2_with fail
                  go_loopw [21] (fun q wr => ∃ a : Nat, a ≤ n ∧ q = .int .i64 a ∧ NetOk w p0 n t K D wr (PhiS n K (Z r) a 0)) (fun q _ => n - (intOf q).toNat)
                  case atStart => exact ⟨0, by omega, rfl, HX.out⟩
                  case round =>
                    obtain ⟨a2, ha2, rfl, hN⟩ := hrel
                    have HNA := Lib.hid hN
                    clear hN HX
                    by_cases ha2n : a2 < n
                    · have ha2n' : (a2 : Int) < n := by omega
                      go_wp2_with fail
                      go_loopw [22] (fun q wr => ∃ b : Nat, b ≤ n ∧ q = .int .i64 b ∧ NetOk w p0 n t K D wr (PhiS n K (Z r) a2 b)) (fun q _ => n - (intOf q).toNat)
                      case atStart => exact ⟨0, by omega, rfl, HNA.out⟩
                      case round =>
                        obtain ⟨b2, hb2, rfl, hN⟩ := hrel
                        have HNB := Lib.hid hN
                        clear hN HNA
                        by_cases hb2n : b2 < n
                        · have hb2n' : (b2 : Int) < n := by omega
                          go_wp2_with fail
                          refine (HNB.out.send hn8 a2 b2 (G := PhiS n K (Z r) a2 (b2 + 1)) fun s hI h => h.send hI ha2n hb2n).mono ?_
                          rintro e w6 ⟨v, rfl, hN6⟩
                          have HN6 := Lib.hid hN6
                          clear hN6 HNB
                          go_wp2_with fail
                          go_roundw
                          case rel => exact ⟨b2 + 1, by omega, by go_num, HN6.out⟩
                          case measure => simp [intOf]; omega
                        · have eb : b2 = n := by omega
                          have HY := Lib.hid (HNB.out.imp (G := PhiS n K (Z r) (a2 + 1) 0) fun s hI h => by rw [eb] at h; exact h.row)
                          have f1 : decide (b2 < n) = false := decide_eq_false hb2n
                          have f2 : decide ((b2 : Int) < n) = false := decide_eq_false (by omega)
                          have f3 : decide (n ≤ b2) = true := decide_eq_true (by omega)
                          have HEB := Lib.hid eb
                          clear eb HNB
                          go_wp2_with fail
                          go_roundw
                          case rel => exact ⟨a2 + 1, by omega, by go_num, HY.out⟩
                          case measure => simp [intOf]; omega
                    · have ea : a2 = n := by omega
                      have HY := Lib.hid (HNA.out.imp (G := PhiR n K Z (r + 1)) fun s hI h => by rw [ea] at h; exact h.all)
                      have f1 : decide (a2 < n) = false := decide_eq_false ha2n
                      have f2 : decide ((a2 : Int) < n) = false := decide_eq_false (by omega)
                      have f3 : decide (n ≤ a2) = true := decide_eq_true (by omega)
                      have HEA2 := Lib.hid ea
                      clear ea HNA
                      go_wp2_with fail
                      go_roundw
                      case rel => exact ⟨r + 1, by omega, by go_num, HY.out⟩
                      case measure => simp [intOf]; omega
            · have er : r = n + 1 := by omega
              have HX := Lib.hid (HN.out.imp (G := fun s => ∀ i, i < n → s.f i = D i) fun s hI h => by
                rw [er] at h
                exact fun i hi => Int.le_antisymm (by have := h.1 i hi; rw [show n + 1 - 1 = n by omega, HZE.out i hi] at this; exact this) (hI.low i hi))
              have d1 : decide (r ≤ n) = false := decide_eq_false hrn
              have d2 : decide ((r : Int) ≤ n) = false := decide_eq_false (by omega)
              have d3 : decide (n < r) = true := decide_eq_true (by omega)
              have HER := Lib.hid er
              clear er HN
              go_wp2_with fail
              have hcall := bellRun_ok n t n t rfl rfl A m cp a b c wr (HL.out.keep HX.out.bel) hm HG.out ht
              rw [HDD.out] at hcall
              refine hcall.mono ?_
              clear hcall
              rintro e w7 ⟨gf, kk, rfl, -, hrow, -, hb7⟩
              have HFR := Lib.hid hrow
              have HN7 := Lib.hid (HX.out.below hb7)
              clear hrow hb7 HX
              go_wp2_with fail
              go_loopw [26] (fun q wr => ∃ i : Nat, i ≤ n ∧ q = .int .i64 i ∧ wr = w7) (fun q _ => n - (intOf q).toNat)
              case atStart => exact ⟨0, by omega, rfl, rfl⟩
              case round =>
                obtain ⟨i, hi, rfl, hwr⟩ := hrel
                subst hwr
                by_cases hin : i < n
                · have hin' : (i : Int) < n := by omega
                  have c1 := HFR.out.cell hin
                  have hcall := HN7.out.dist hn8 i i rfl hin (D i) (fun s hI h => h i hin)
                  have HC := Lib.hid hcall
                  clear hcall
                  obtain ⟨d, hd⟩ : ∃ d, D i = d := ⟨_, rfl⟩
                  rw [hd] at HC c1
                  clear hd
                  go_wp2_with fail
                  refine HC.out.mono ?_
                  rintro e w8 ⟨rfl, h8⟩
                  subst w8
                  clear HC
                  go_wp2_with fail
                  go_roundw
                  case rel => exact ⟨i + 1, by omega, by go_num, trivial⟩
                  case measure => simp [intOf]; omega
                · have d4 : decide (i < n) = false := decide_eq_false hin
                  have d5 : decide ((i : Int) < n) = false := decide_eq_false (by omega)
                  have d6 : decide (n ≤ i) = true := decide_eq_true (by omega)
                  go_wp2_with fail
                  go_ret
                  exact ⟨rfl, HN7.out.bel⟩
  · have hbad : Calls Try.prog 7 #[.int .i64 x, .slice A m cp, .int .i64 y] w1 fun e w' => e = .returned (.tuple #[.pointer none, errNo v]) ∧ Below w1.heap.size w1 w' := by
      rcases hf with hf | ⟨hg, hy, rfl⟩
      · exact asyncNew_bad x A m cp y a b c w1 (HL.out.keep HB1.out) hm v hv hf
      · obtain ⟨n, rfl, hn1, hn8, hr⟩ := good_nat hg
        exact asyncNew_range n n rfl A m cp y a b c w1 (HL.out.keep HB1.out) hm hg hy
    have HC := Lib.hid hbad
    clear hbad hf hv
    refine HC.out.mono ?_
    rintro e w2 ⟨rfl, hb2⟩
    have HB2 := Lib.hid (keep HB1.out hb2)
    clear hb2 HB1 HC
    go_wp2_with fail
    go_ret
    exact ⟨rfl, HB2.out⟩

end Go.Proofs.Ytlbdbfmgkappaaa

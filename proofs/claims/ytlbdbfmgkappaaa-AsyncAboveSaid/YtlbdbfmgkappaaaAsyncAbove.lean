/- AsyncAbove: never too near, and once near no node thinks it farther. For all arguments; no condition. -/
import Derived.Test.YtlbdbfmgkappaaaAsync
import Derived.Test.YtlbdbfmgkappaaaSpfFar
import Derived.Test.YtlbdbfmgkappaaaRefBell
import Derived.Test.YtlbdbfmgkappaaaVecB
namespace Go.Proofs.Ytlbdbfmgkappaaa
open Go.RowKit
set_option linter.unusedVariables false

set_option maxRecDepth 100000 in
set_option maxHeartbeats 4000000 in
theorem asyncAbove_walk (x : Int) (A : Option Addr) (m cp : Nat) (a b c : Nat → Int) (y : Int) (T : Option Addr) (nt ct : Nat) (ft : Nat → Bool) (P : Option Addr) (na ca : Nat) (fa : Nat → Int) (Q : Option Addr) (nb cb : Nat) (fb : Nat → Int) (w : World) (hl : Lnk w A m a b c) (hm : m ≤ 9223372036854775807) (hT : VecB w T nt ft) (hnt : nt ≤ 9223372036854775807) (hP : Vec w P na fa) (hna : na ≤ 9223372036854775807) (hQ : Vec w Q nb fb) (hnb : nb ≤ 9223372036854775807) :
    Calls Try.prog 5 #[.int .i64 x, .slice A m cp, .int .i64 y, .slice T nt ct, .slice P na ca, .slice Q nb cb] w fun e w' => e = .returned (.bool true) ∧ Below w.heap.size w w' := by
  have HL := Lib.hid hl
  have HT := Lib.hid hT
  have HPP := Lib.hid hP
  have HQQ := Lib.hid hQ
  clear hl hT hP hQ
  go_enter Try.func5, Try.ntmps5
  go_wp2_with fail
  refine (sent_walk w).mono ?_
  rintro e w1 ⟨rfl, hb1⟩
  have HB1 := Lib.hid hb1
  clear hb1
  go_wp2_with fail
  rcases bellRun_bad_aux x y m a b c with ⟨hg, h0, h1⟩ | ⟨v, hv, hf⟩
  · obtain ⟨n, rfl, hn1, hn8, hr⟩ := good_nat hg
    obtain ⟨t, rfl⟩ : ∃ t : Nat, y = t := ⟨y.toNat, by omega⟩
    have ht : t < n := by omega
    have hn8' : (n : Int) ≤ 8 := by omega
    have HG := Lib.hid hg
    have HR := Lib.hid hr
    clear hg hr h0 h1
    have hcall := asyncNew_ok n n rfl A m cp t t rfl a b c w1 (HL.out.keep HB1.out) hm HG.out ht
    refine hcall.mono ?_
    clear hcall
    rintro e w2 ⟨lab, Ad, rfl, hA, hlow, hb2⟩
    have HA := Lib.hid hA
    have HLO : Hid (∀ b, b < w.heap.size → lab b = []) := fun b hb => hlow b (Nat.lt_of_lt_of_le hb HB1.out.size)
    have HB2 := Lib.hid (keep HB1.out hb2)
    clear hA hlow hb2 HB1
    go_wp2_with fail
    have hcall := spfFar_ok n t n t rfl rfl A m cp a b c w2 (HL.out.keep HB2.out) hm HG.out ht
    refine hcall.mono ?_
    clear hcall
    rintro e w3 ⟨gf, rfl, hgf, hrow, hb3⟩
    have HFR := Lib.hid hrow
    have HLF := Lib.hid (HA.out.free gf hgf)
    have HA3 := Lib.hid (HA.out.below hb3)
    have HB3 := Lib.hid (keep HB2.out hb3)
    clear hrow hb3 hgf HB2 HA
    go_wp2_with fail
    have hcall := startOf_walk n t n t rfl rfl w3 ht (by omega)
    refine hcall.mono ?_
    clear hcall
    rintro e w4 ⟨gw, cw, rfl, hgw, hrow, hb4⟩
    have HWR := Lib.hid hrow
    have HLW := Lib.hid (HA3.out.free gw hgw)
    have HNE : Hid (gf < gw ∧ w.heap.size ≤ gw) := ⟨Nat.lt_of_lt_of_le HFR.out.lt hgw, Nat.le_trans HB3.out.size hgw⟩
    have HF4 := Lib.hid (HFR.out.below hb4 HFR.out.lt)
    have HA4 := Lib.hid (HA3.out.below hb4)
    have HB4 := Lib.hid (keep HB3.out hb4)
    have HI4 : Hid (AInv n t (costF m a b c) (endF t a b c m) (AS.new t)) := AInv.new (cost_m HR.out) (end_k HR.out)
    have HD0 : Hid (∀ i, i < n → 0 ≤ endF t a b c m i) := fun i hi => (end_ranged HR.out i hi).1
    obtain ⟨p0, hp0⟩ : ∃ p0, Ad.p = p0 := ⟨_, rfl⟩
    have HP0 := Lib.hid hp0
    rw [hp0]
    clear hrow hb4 hgw HFR HA3 HB3 hp0
    go_wp2_with fail
    go_loopw [19] (fun q wr => ∃ k : Nat, k ≤ nt ∧ q = .int .i64 k ∧ (∃ lab Ad s, Ad.p = p0 ∧ AN wr lab Ad n t (costF m a b c) s ∧ AInv n t (costF m a b c) (endF t a b c m) s ∧ lab gf = [] ∧ lab gw = [] ∧ (∀ b, b < w.heap.size → lab b = []) ∧ RowP wr gw 3 n fun i => .int .i64 (s.f i)) ∧ RowP wr gf 3 n (fun i => .int .i64 (endF t a b c m i)) ∧ Below w.heap.size w wr) (fun q _ => nt - (intOf q).toNat)
    case atStart => exact ⟨0, by omega, rfl, ⟨lab, Ad, _, HP0.out, HA4.out, HI4.out, HLF.out, HLW.out, HLO.out, HWR.out⟩, HF4.out, HB4.out⟩
    case round =>
      obtain ⟨k, hk, rfl, ⟨lab5, A5, s5, hp5, hA5, hI5, hlf5, hlw5, hlo5, hwr5⟩, hfr5, hbw5⟩ := hrel
      have HA5 := Lib.hid hA5
      have HI5 := Lib.hid hI5
      have HLF5 := Lib.hid hlf5
      have HLW5 := Lib.hid hlw5
      have HLO5 := Lib.hid hlo5
      have HWR5 := Lib.hid hwr5
      have HFR5 := Lib.hid hfr5
      have HBW5 := Lib.hid hbw5
      have HP5 := Lib.hid hp5
      rw [← hp5]
      clear hp5 hA5 hI5 hlf5 hlw5 hlo5 hwr5 hfr5 hbw5 HA4 HI4 HLF HLW HLO HWR HF4 HB4 HP0
      obtain ⟨wo, hwo⟩ : ∃ wo : World, wo = wr := ⟨_, rfl⟩
      rw [← hwo] at HA5 HWR5 HFR5 HBW5 ⊢
      clear hwo
      by_cases hin : k < nt ∧ k < na ∧ k < nb
      · obtain ⟨hi1, hi2, hi3⟩ := hin
        have hi1' : (k : Int) < nt := by omega
        have hi2' : (k : Int) < na := by omega
        have hi3' : (k : Int) < nb := by omega
        obtain ⟨adt, rfl, -, ct1⟩ := HT.out.keep HBW5.out k hi1
        obtain ⟨ada, rfl, -, ca1⟩ := HPP.out.keep HBW5.out k hi2
        obtain ⟨adb, rfl, -, cb1⟩ := HQQ.out.keep HBW5.out k hi3
        cases hft : ft k with
        | true =>
          rw [hft] at ct1
          clear hft
          go_wp2_with fail
          refine wp_region_quiet_tail 9 (by kernel_rfl) (by kernel_rfl) ?_
          simp only [List.take_succ_cons, List.take_zero, List.drop_succ_cons, List.drop_zero]
          repeat (go_big_quiet_step (fail))
          refine wpQuiet_nil ?_
          go_wp2_with fail
          refine (netTake (fa k) (fb k) (HA5.out.drewN 1) HI5.out hn8 (cost_m HR.out) (end_k HR.out) HD0.out).mono ?_
          rintro e w6 ⟨v, rfl, lab6, A6, hp6, hA6, hI6, hfall, hF6⟩
          obtain ⟨s6, hs6⟩ : ∃ s6, s5.take n t (costF m a b c) (fa k) (fb k) = s6 := ⟨_, rfl⟩
          rw [hs6] at hA6 hI6 hfall
          have hF6' : AF lab5 wo lab6 w6 := (AF.trans ⟨(Touch.refl _ _).drew, fun _ _ => rfl⟩ hF6)
          have HA6 := Lib.hid hA6
          have HI6 := Lib.hid hI6
          have HFALL := Lib.hid hfall
          have HWR6 := Lib.hid (HWR5.out.af HLW5.out hF6')
          have HFR6 := Lib.hid (HFR5.out.af HLF5.out hF6')
          have HBL6 := Lib.hid (hF6'.below HBW5.out.size HLO5.out)
          have HP6 := Lib.hid hp6
          clear hA6 hI6 hfall hF6 hF6' hp6 hs6 HA5 HI5 HLF5 HLW5 HLO5 HWR5 HFR5 ct1 ca1 cb1
          go_wp2_with fail
          go_loopw [20] (fun q wi => ∃ i : Nat, i ≤ n ∧ q = .int .i64 i ∧ AN wi lab6 A6 n t (costF m a b c) s6 ∧ RowP wi gw 3 n (fun j => .int .i64 (if j < i then s6.f j else s5.f j)) ∧ RowP wi gf 3 n (fun i => .int .i64 (endF t a b c m i)) ∧ Below w.heap.size w wi) (fun q _ => n - (intOf q).toNat)
          case atStart => exact ⟨0, by omega, rfl, HA6.out, HWR6.out.1.congr fun j _ => by rw [if_neg (by omega)], HFR6.out.1, HBW5.out.trans HBL6.out.1⟩
          case round =>
            obtain ⟨i, hi, rfl, hA7, hwr7, hfr7, hb7⟩ := hrel
            by_cases hin7 : i < n
            · have hin7' : (i : Int) < n := by omega
              have c1 := hwr7.cell hin7
              rw [if_neg (by omega)] at c1
              have c2 := hfr7.cell hin7
              have c3 := hwr7.frozen i
              have hle := HFALL.out i hin7
              have hge := HI6.out.low i hin7
              have HNX : Hid (AN (wr.setCell ⟨gw, i, none⟩ (.int .i64 (s6.f i))) lab6 A6 n t (costF m a b c) s6 ∧ RowP (wr.setCell ⟨gw, i, none⟩ (.int .i64 (s6.f i))) gw 3 n (fun j => .int .i64 (if j < i + 1 then s6.f j else s5.f j)) ∧ RowP (wr.setCell ⟨gw, i, none⟩ (.int .i64 (s6.f i))) gf 3 n (fun i => .int .i64 (endF t a b c m i)) ∧ Below w.heap.size w (wr.setCell ⟨gw, i, none⟩ (.int .i64 (s6.f i)))) := by
                have hne := HNE.out
                refine ⟨hA7.same (fun b hb hl => Below.heap_setCell _ _ _ _ (fun e => hl (by rw [e]; exact HWR6.out.2))) (by rw [size_setCell]; exact Nat.le_refl _), (hwr7.set i _).congr fun j _ => ?_, hfr7.setOther (by show gf ≠ gw; omega) _, hb7.setCell (by show w.heap.size ≤ gw; omega) _⟩
                unfold upd
                by_cases e : j = i
                · subst e; simp
                · rw [if_neg e]
                  show Value.int .i64 (if j < i then s6.f j else s5.f j) = Value.int .i64 (if j < i + 1 then s6.f j else s5.f j)
                  by_cases e2 : j < i
                  · rw [if_pos e2, if_pos (by omega)]
                  · rw [if_neg e2, if_neg (by omega)]
              have hcall := netDist i i rfl hin7 hA7 hn8
              rw [HP6.out] at hcall
              have HC := Lib.hid hcall
              obtain ⟨d, hd⟩ : ∃ d, s6.f i = d := ⟨_, rfl⟩
              obtain ⟨u, hu⟩ : ∃ u, s5.f i = u := ⟨_, rfl⟩
              obtain ⟨v2, hv2⟩ : ∃ v2, endF t a b c m i = v2 := ⟨_, rfl⟩
              rw [hd] at HC HNX hle hge
              rw [hu] at c1 hle
              rw [hv2] at c2 hge
              have d1 : decide (d < v2) = false := decide_eq_false (by omega)
              have d2 : decide (u < d) = false := decide_eq_false (by omega)
              clear hA7 hwr7 hfr7 hb7 hcall hd hu hv2 HA6
              go_wp2_with fail
              refine HC.out.mono ?_
              rintro e w8 ⟨rfl, h8⟩
              subst w8
              clear HC
              go_wp2_with fail
              go_roundw
              case rel => exact ⟨i + 1, by omega, by go_num, HNX.out.1, HNX.out.2.1, HNX.out.2.2.1, HNX.out.2.2.2⟩
              case measure => simp [intOf]; omega
            · have ei : i = n := by omega
              have HNX : Hid (AN wr lab6 A6 n t (costF m a b c) s6 ∧ RowP wr gw 3 n (fun j => .int .i64 (s6.f j)) ∧ RowP wr gf 3 n (fun i => .int .i64 (endF t a b c m i)) ∧ Below w.heap.size w wr) :=
                ⟨hA7, hwr7.congr fun j hj => by rw [if_pos (by omega)], hfr7, hb7⟩
              have hid7 : decide ((i : Int) < n) = false := decide_eq_false (by omega)
              have hid8 : decide (n ≤ i) = true := decide_eq_true (by omega)
              have HEI := Lib.hid ei
              clear hA7 hwr7 hfr7 hb7 ei HA6
              go_wp2_with fail
              go_roundw
              case rel => exact ⟨k + 1, by omega, by go_num, ⟨lab6, A6, s6, HP6.out, HNX.out.1, HI6.out, HFR6.out.2, HWR6.out.2, HBL6.out.2, HNX.out.2.1⟩, HNX.out.2.2.1, HNX.out.2.2.2⟩
              case measure => simp [intOf]; omega
        | false =>
          rw [hft] at ct1
          clear hft
          go_wp2_with fail
          refine wp_region_quiet_tail 9 (by kernel_rfl) (by kernel_rfl) ?_
          simp only [List.take_succ_cons, List.take_zero, List.drop_succ_cons, List.drop_zero]
          repeat (go_big_quiet_step (fail))
          refine wpQuiet_nil ?_
          go_wp2_with fail
          refine (netSend (fa k) (fb k) (HA5.out.drewN 1) HI5.out hn8).mono ?_
          rintro e w6 ⟨v, rfl, lab6, A6, hp6, hA6, hI6, hF6⟩
          have hfall : ∀ i, i < n → (s5.send n (costF m a b c) (fa k) (fb k)).f i ≤ s5.f i := fun i _ => by rw [send_f]; exact Int.le_refl _
          obtain ⟨s6, hs6⟩ : ∃ s6, s5.send n (costF m a b c) (fa k) (fb k) = s6 := ⟨_, rfl⟩
          rw [hs6] at hA6 hI6 hfall
          have hF6' : AF lab5 wo lab6 w6 := (AF.trans ⟨(Touch.refl _ _).drew, fun _ _ => rfl⟩ hF6)
          have HA6 := Lib.hid hA6
          have HI6 := Lib.hid hI6
          have HFALL := Lib.hid hfall
          have HWR6 := Lib.hid (HWR5.out.af HLW5.out hF6')
          have HFR6 := Lib.hid (HFR5.out.af HLF5.out hF6')
          have HBL6 := Lib.hid (hF6'.below HBW5.out.size HLO5.out)
          have HP6 := Lib.hid hp6
          clear hA6 hI6 hfall hF6 hF6' hp6 hs6 HA5 HI5 HLF5 HLW5 HLO5 HWR5 HFR5 ct1 ca1 cb1
          go_wp2_with fail
          go_loopw [20] (fun q wi => ∃ i : Nat, i ≤ n ∧ q = .int .i64 i ∧ AN wi lab6 A6 n t (costF m a b c) s6 ∧ RowP wi gw 3 n (fun j => .int .i64 (if j < i then s6.f j else s5.f j)) ∧ RowP wi gf 3 n (fun i => .int .i64 (endF t a b c m i)) ∧ Below w.heap.size w wi) (fun q _ => n - (intOf q).toNat)
          case atStart => exact ⟨0, by omega, rfl, HA6.out, HWR6.out.1.congr fun j _ => by rw [if_neg (by omega)], HFR6.out.1, HBW5.out.trans HBL6.out.1⟩
          case round =>
            obtain ⟨i, hi, rfl, hA7, hwr7, hfr7, hb7⟩ := hrel
            by_cases hin7 : i < n
            · have hin7' : (i : Int) < n := by omega
              have c1 := hwr7.cell hin7
              rw [if_neg (by omega)] at c1
              have c2 := hfr7.cell hin7
              have c3 := hwr7.frozen i
              have hle := HFALL.out i hin7
              have hge := HI6.out.low i hin7
              have HNX : Hid (AN (wr.setCell ⟨gw, i, none⟩ (.int .i64 (s6.f i))) lab6 A6 n t (costF m a b c) s6 ∧ RowP (wr.setCell ⟨gw, i, none⟩ (.int .i64 (s6.f i))) gw 3 n (fun j => .int .i64 (if j < i + 1 then s6.f j else s5.f j)) ∧ RowP (wr.setCell ⟨gw, i, none⟩ (.int .i64 (s6.f i))) gf 3 n (fun i => .int .i64 (endF t a b c m i)) ∧ Below w.heap.size w (wr.setCell ⟨gw, i, none⟩ (.int .i64 (s6.f i)))) := by
                have hne := HNE.out
                refine ⟨hA7.same (fun b hb hl => Below.heap_setCell _ _ _ _ (fun e => hl (by rw [e]; exact HWR6.out.2))) (by rw [size_setCell]; exact Nat.le_refl _), (hwr7.set i _).congr fun j _ => ?_, hfr7.setOther (by show gf ≠ gw; omega) _, hb7.setCell (by show w.heap.size ≤ gw; omega) _⟩
                unfold upd
                by_cases e : j = i
                · subst e; simp
                · rw [if_neg e]
                  show Value.int .i64 (if j < i then s6.f j else s5.f j) = Value.int .i64 (if j < i + 1 then s6.f j else s5.f j)
                  by_cases e2 : j < i
                  · rw [if_pos e2, if_pos (by omega)]
                  · rw [if_neg e2, if_neg (by omega)]
              have hcall := netDist i i rfl hin7 hA7 hn8
              rw [HP6.out] at hcall
              have HC := Lib.hid hcall
              obtain ⟨d, hd⟩ : ∃ d, s6.f i = d := ⟨_, rfl⟩
              obtain ⟨u, hu⟩ : ∃ u, s5.f i = u := ⟨_, rfl⟩
              obtain ⟨v2, hv2⟩ : ∃ v2, endF t a b c m i = v2 := ⟨_, rfl⟩
              rw [hd] at HC HNX hle hge
              rw [hu] at c1 hle
              rw [hv2] at c2 hge
              have d1 : decide (d < v2) = false := decide_eq_false (by omega)
              have d2 : decide (u < d) = false := decide_eq_false (by omega)
              clear hA7 hwr7 hfr7 hb7 hcall hd hu hv2 HA6
              go_wp2_with fail
              refine HC.out.mono ?_
              rintro e w8 ⟨rfl, h8⟩
              subst w8
              clear HC
              go_wp2_with fail
              go_roundw
              case rel => exact ⟨i + 1, by omega, by go_num, HNX.out.1, HNX.out.2.1, HNX.out.2.2.1, HNX.out.2.2.2⟩
              case measure => simp [intOf]; omega
            · have ei : i = n := by omega
              have HNX : Hid (AN wr lab6 A6 n t (costF m a b c) s6 ∧ RowP wr gw 3 n (fun j => .int .i64 (s6.f j)) ∧ RowP wr gf 3 n (fun i => .int .i64 (endF t a b c m i)) ∧ Below w.heap.size w wr) :=
                ⟨hA7, hwr7.congr fun j hj => by rw [if_pos (by omega)], hfr7, hb7⟩
              have hid7 : decide ((i : Int) < n) = false := decide_eq_false (by omega)
              have hid8 : decide (n ≤ i) = true := decide_eq_true (by omega)
              have HEI := Lib.hid ei
              clear hA7 hwr7 hfr7 hb7 ei HA6
              go_wp2_with fail
              go_roundw
              case rel => exact ⟨k + 1, by omega, by go_num, ⟨lab6, A6, s6, HP6.out, HNX.out.1, HI6.out, HFR6.out.2, HWR6.out.2, HBL6.out.2, HNX.out.2.1⟩, HNX.out.2.2.1, HNX.out.2.2.2⟩
              case measure => simp [intOf]; omega
      · have HNX : Hid (Below w.heap.size w wo) := HBW5.out
        by_cases h1 : k < nt
        · have h1' : (k : Int) < nt := by omega
          have e1 : decide (k < nt) = true := decide_eq_true h1
          by_cases h2 : k < na
          · have h2' : (k : Int) < na := by omega
            have e2 : decide (k < na) = true := decide_eq_true h2
            have h3 : ¬ k < nb := fun h => hin ⟨h1, h2, h⟩
            have e3 : decide (k < nb) = false := decide_eq_false h3
            clear hin
            go_wp2_with fail
            go_ret
            exact ⟨rfl, HNX.out⟩
          · have e2 : decide (k < na) = false := decide_eq_false h2
            clear hin
            go_wp2_with fail
            go_ret
            exact ⟨rfl, HNX.out⟩
        · have e1 : decide (k < nt) = false := decide_eq_false h1
          clear hin
          go_wp2_with fail
          go_ret
          exact ⟨rfl, HNX.out⟩
  · have hbad : Calls Try.prog 7 #[.int .i64 x, .slice A m cp, .int .i64 y] w1 fun e w' => e = .returned (.tuple #[.pointer none, errNo v]) ∧ Below w1.heap.size w1 w' := by
      rcases hf with hf | ⟨hg, hy, rfl⟩
      · exact asyncNew_bad x A m cp y a b c w1 (HL.out.keep HB1.out) hm v hv hf
      · obtain ⟨n, rfl, hn1, hn8, hr⟩ := good_nat hg
        exact asyncNew_range n n rfl A m cp y a b c w1 (HL.out.keep HB1.out) hm hg hy
    have HC := Lib.hid hbad
    clear hbad hf hv
    refine HC.out.mono ?_
    rintro e w2 ⟨rfl, hb2⟩
    have HB2 := Lib.hid (keep HB1.out hb2)
    clear hb2 HB1 HC
    go_wp2_with fail
    go_ret
    exact ⟨rfl, HB2.out⟩

end Go.Proofs.Ytlbdbfmgkappaaa

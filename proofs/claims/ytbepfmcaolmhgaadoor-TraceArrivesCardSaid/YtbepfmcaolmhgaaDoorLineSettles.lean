/- LineSettles: behind as many steps as there are nodes, less one, each thinks of each what it is far; the next ones lead there. For all arguments. -/
import Derived.Test.YtbepfmcaolmhgaaDoorLined
import Derived.Test.YtbepfmcaolmhgaaDoorSpfFar
import Derived.Test.YtbepfmcaolmhgaaDoorCost
namespace Go.Proofs.YtbepfmcaolmhgaaDoor
open Go.RowKit
set_option linter.unusedVariables false

attribute [local go_sem high] run_min_pair run_max_pair

theorem LineH.lo_lt {w : World} {lo s : Nat} {po : Bool} {n m : Nat} {a b c : Nat → Int} {F G : Nat → Nat → Int} (h : LineH w lo s po n m a b c F G) : lo ≤ w.heap.size := by
  obtain ⟨_, _, _, _, _, _, h⟩ := h
  have := h.blk.lt
  have := h.lo
  omega

set_option maxRecDepth 100000 in
set_option maxHeartbeats 8000000 in
theorem lineSettles_walk (x : Int) (A : Option Addr) (m cap : Nat) (a b c : Nat → Int) (po : Bool) (y : Int) (w : World) (hN : NobT w) (hl : Lnk w A m a b c) (hm : m ≤ 9223372036854775807) :
    Calls Tryd.prog 4 #[.int .i64 x, .slice A m cap, .bool po, .int .i64 y] w fun e w' => e = .returned (.bool true) ∧ Below w.heap.size w w' := by
  have HL := Lib.hid hl
  have HN := Lib.hid hN
  clear hl hN
  go_enter Tryd.func4, Tryd.ntmps4
  go_wp2_with fail
  refine (lined_walk w HN.out).mono ?_
  rintro e w1 ⟨rfl, hb1⟩
  have HB1 := Lib.hid hb1
  clear hb1
  go_wp2_with fail
  rcases graph_cases x m a b c with hg | ⟨v, -, hf⟩
  · obtain ⟨n, rfl, hn1, hn8, hr⟩ := good_nat hg
    have hn8' : (n : Int) ≤ 8 := by omega
    have HG := Lib.hid hg
    have HR := Lib.hid hr
    have HK := Lib.hid (cost_m hr)
    clear hg hr
    have hcall := lineNew_ok n n rfl A m cap po a b c w1 (HN.out.keep HB1.out) (HL.out.keep HB1.out) hm HG.out
    refine hcall.mono ?_
    clear hcall
    rintro e w2 ⟨s, rfl, hL, hb2⟩
    have HL2 : Hid (LineH w2 w1.heap.size s po n m a b c (fun i t => (lineS po n (costF m a b c) startS 0 i t).1) (fun i t => (lineS po n (costF m a b c) startS 0 i t).2)) := hL
    have HB2 := Lib.hid hb2
    clear hL hb2
    obtain ⟨N, hNN⟩ : ∃ N : Nat, (n : Int) - 1 + max 0 (min y 20) = (N : Int) := ⟨((n : Int) - 1 + max 0 (min y 20)).toNat, by omega⟩
    have HNN := Lib.hid hNN
    have HNn : Hid (n ≤ N + 1) := by
      show n ≤ N + 1
      omega
    have hN100 : N ≤ 28 := by omega
    clear hNN
    go_wp2_with fail
    go_loopw [12] (fun q wr => ∃ r : Nat, r ≤ N ∧ q = .int .i64 r ∧ LineH wr w1.heap.size s po n m a b c (fun i t => (lineS po n (costF m a b c) startS r i t).1) (fun i t => (lineS po n (costF m a b c) startS r i t).2) ∧ Below w1.heap.size w1 wr) (fun q _ => N - (intOf q).toNat)
    case atStart => exact ⟨0, by omega, rfl, HL2.out, HB2.out⟩
    case round =>
      obtain ⟨r, hr, rfl, hL, hb⟩ := hrel
      have HL3 := Lib.hid hL
      have HB3 := Lib.hid hb
      clear hL hb HL2 HB2
      by_cases hrN : r < N
      · have hlt : (r : Int) < (n : Int) - 1 + max 0 (min y 20) := by rw [HNN.out]; omega
        have hcall := lineStep s n m _ po a b c _ _ wr (HN.out.keep (keep HB1.out HB3.out)) HL3.out hn1 hn8 hm HR.out (lineS_ranged HK.out startS_ranged r) HL3.out.lo_lt
        have HC := Lib.hid hcall
        clear hcall
        go_wp2_with fail
        refine HC.out.mono ?_
        rintro e w4 ⟨rfl, hL4, hb4⟩
        have HL4 : Hid (LineH w4 w1.heap.size s po n m a b c (fun i t => (lineS po n (costF m a b c) startS (r + 1) i t).1) (fun i t => (lineS po n (costF m a b c) startS (r + 1) i t).2)) := hL4
        have HB4 : Hid (Below w1.heap.size w1 w4) := HB3.out.trans hb4.bel
        clear hL4 hb4 HC HL3 HB3
        go_wp2_with fail
        go_roundw
        case rel => exact ⟨r + 1, by omega, by go_num, HL4.out, HB4.out⟩
        case measure => simp [intOf]; omega
      · have er : r = N := by omega
        subst er
        obtain ⟨wo, hwo⟩ : ∃ wo : World, wo = wr := ⟨_, rfl⟩
        rw [← hwo] at HL3 HB3 ⊢
        clear hwo
        have hge : (n : Int) - 1 + max 0 (min y 20) ≤ (r : Int) := by rw [HNN.out]; omega
        have HSET := Lib.hid (fun i k hi hk => line_settled (po := po) HR.out HNn.out (i := i) (k := k) hi hk)
        go_wp2_with fail
        clear hge
        go_loopw [13] (fun q wi => ∃ i : Nat, i ≤ n ∧ q = .int .i64 i ∧ Below wo.heap.size wo wi) (fun q _ => n - (intOf q).toNat)
        case atStart => exact ⟨0, by omega, rfl, Below.refl _ _⟩
        case round =>
          obtain ⟨i, hi, rfl, hb⟩ := hrel
          have HB4 := Lib.hid hb
          clear hb
          by_cases hin : i < n
          · have hin' : (i : Int) < n := by omega
            go_wp2_with fail
            have hcall := lineRow_ok s n m i i rfl _ po a b c _ _ wr (HL3.out.below HB4.out) hin hn8
            refine hcall.mono ?_
            clear hcall
            rintro e w4 ⟨v4, rfl, hV4, hb4⟩
            obtain ⟨A4, c4, rfl, hv4⟩ := hV4.vec
            have HV4 := Lib.hid hv4
            have HB5 := Lib.hid (keep HB4.out hb4)
            clear hV4 hv4 hb4 HB4
            go_wp2_with fail
            have hcall := lineNext_ok s n m i i rfl _ po a b c _ _ w4 (HL3.out.below HB5.out) hin hn8
            refine hcall.mono ?_
            clear hcall
            rintro e w5 ⟨v5, rfl, hV5, hb5⟩
            obtain ⟨A5, c5, rfl, hv5⟩ := hV5.vec
            have HV5 := Lib.hid hv5
            have HV4b := Lib.hid (HV4.out.keep hb5)
            have HB6 := Lib.hid (keep HB5.out hb5)
            clear hV5 hv5 hb5 HB5 HV4
            go_wp2_with fail
            have HLW := Lib.hid (keep (keep HB1.out HB3.out) HB6.out)
            have hcall := spfFar_ok n i n i rfl rfl A m cap a b c w5 (HL.out.keep HLW.out) hm HG.out hin
            refine hcall.mono ?_
            clear hcall
            rintro e w6 ⟨g6, rfl, -, hrow6, hb6⟩
            have HX6 := Lib.hid hrow6
            have HV4c := Lib.hid (HV4b.out.keep hb6)
            have HV5c := Lib.hid (HV5.out.keep hb6)
            have HB7 := Lib.hid (keep HB6.out hb6)
            clear hrow6 hb6 HB6 HV4b HV5 HLW
            go_wp2_with fail
            have hcall := ints_walk A4 (some ⟨g6, 0, none⟩) n n c4 n _ _ w6 HV4c.out HX6.out.vec (by omega) (by omega) true ⟨fun _ => ⟨rfl, fun k hk => (HSET.out i k hin hk).1⟩, fun _ => rfl⟩
            refine hcall.mono ?_
            clear hcall
            rintro e w7 ⟨rfl, k7, hw7⟩
            have HB8 : Hid (Below wo.heap.size wo w7) := by subst w7; exact below_drewN HB7.out k7
            have HX7 : Hid (RowP w7 g6 3 n (fun k => .int .i64 (endF i a b c m k))) := by subst w7; exact HX6.out.drewN k7
            have HV7 : Hid (Vec w7 A5 n (fun k => (lineS po n (costF m a b c) startS r i k).2)) := by subst w7; exact HV5c.out
            clear hw7 HB7 HX6 HV4c HV5c
            go_wp2_with fail
            go_loopw [21] (fun q wi => ∃ k : Nat, k ≤ n ∧ q = .int .i64 k ∧ Below w7.heap.size w7 wi) (fun q _ => n - (intOf q).toNat)
            case atStart => exact ⟨0, by omega, rfl, Below.refl _ _⟩
            case round =>
              obtain ⟨k, hk, rfl, hb⟩ := hrel
              have HB9 := Lib.hid hb
              clear hb
              by_cases hkn : k < n
              · have hkn' : (k : Int) < n := by omega
                have cx := (HX7.out.below HB9.out HX7.out.lt).cell hkn
                obtain ⟨ap, rfl, hapl, hap⟩ := HV7.out k hkn
                have cp : wr.cell? (ap.add k) = some (.int .i64 (lineS po n (costF m a b c) startS r i k).2) := (HB9.out.cell (by rw [block_of_add]; exact hapl)).trans hap
                obtain ⟨-, hcase⟩ := HSET.out i k hin hkn
                obtain ⟨pv, hpv⟩ : ∃ pv, (lineS po n (costF m a b c) startS r i k).2 = pv := ⟨_, rfl⟩
                obtain ⟨dk, hdk⟩ : ∃ dk, endF i a b c m k = dk := ⟨_, rfl⟩
                rw [hpv] at cp hcase
                rw [hdk] at cx hcase
                clear hapl hap hpv hdk
                rcases hcase with ⟨rfl, hno⟩ | ⟨p, hp, rfl, hpi, hki, h16, hc1, hc16, hsum⟩
                · rcases hno with hki | hd
                  · have e2 : ((k : Int) == (i : Int)) = true := by simp [hki]
                    have e1 : (k == i) = true := by simp [hki]
                    have e3 : ((k : Int) != (i : Int)) = false := by simp [hki]
                    have e4 : (k != i) = false := by simp [hki]
                    clear hki
                    go_wp2_with fail
                    go_quiet (fail)
                    go_wp2_with fail
                    go_roundw
                    case rel => exact ⟨k + 1, by omega, by go_num, below_drewN HB9.out _⟩
                    case measure => simp [intOf]; omega
                  · have hd2 : decide (dk < 16) = false := decide_eq_false (by omega)
                    by_cases hki : k = i
                    · have e2 : ((k : Int) == (i : Int)) = true := by simp [hki]
                      have e1 : (k == i) = true := by simp [hki]
                      have e3 : ((k : Int) != (i : Int)) = false := by simp [hki]
                      have e4 : (k != i) = false := by simp [hki]
                      clear hki
                      go_wp2_with fail
                      go_quiet (fail)
                      go_wp2_with fail
                      go_roundw
                      case rel => exact ⟨k + 1, by omega, by go_num, below_drewN HB9.out _⟩
                      case measure => simp [intOf]; omega
                    · have e2 : ((k : Int) == (i : Int)) = false := beq_false_of_ne (by omega)
                      have e1 : (k == i) = false := beq_false_of_ne hki
                      have e3 : ((k : Int) != (i : Int)) = true := bne_iff_ne.2 (by omega)
                      have e4 : (k != i) = true := bne_iff_ne.2 hki
                      clear hki
                      go_wp2_with fail
                      go_quiet (fail)
                      go_wp2_with fail
                      go_roundw
                      case rel => exact ⟨k + 1, by omega, by go_num, below_drewN HB9.out _⟩
                      case measure => simp [intOf]; omega
                · have e2 : ((k : Int) == (i : Int)) = false := beq_false_of_ne (by omega)
                  have e1 : (k == i) = false := beq_false_of_ne hki
                  have e3 : ((k : Int) != (i : Int)) = true := bne_iff_ne.2 (by omega)
                  have e4 : (k != i) = true := bne_iff_ne.2 hki
                  have hp' : (p : Int) < n := by omega
                  obtain ⟨cc, hcc⟩ : ∃ cc, costF m a b c i p = cc := ⟨_, rfl⟩
                  obtain ⟨dp, hdp⟩ : ∃ dp, endF p a b c m k = dp := ⟨_, rfl⟩
                  rw [hcc] at hc1 hc16 hsum
                  rw [hdp] at hsum
                  have hdp0 : 0 ≤ dp := by rw [← hdp]; exact (end_ranged (t := p) HR.out k hkn).1
                  have hdp1 : dp ≤ 16 := by rw [← hdp]; exact (end_ranged (t := p) HR.out k hkn).2
                  have HCC : Hid (costV m a b c i p = cc) := hcc
                  have HDP := Lib.hid hdp
                  have HSUM := Lib.hid hsum
                  clear hki hpi hcc hdp hsum
                  go_wp2_with fail
                  go_quiet (fail)
                  have HB10 := Lib.hid (below_drewN HB9.out nq)
                  obtain ⟨wq, hwq⟩ : ∃ wq, wr.drewN nq = wq := ⟨_, rfl⟩
                  have cx10 : wq.cell? ⟨g6, k, none⟩ = some (.int .i64 dk) := by rw [← hwq]; exact cx
                  have cp10 : wq.cell? (ap.add k) = some (.int .i64 (p : Int)) := by rw [← hwq]; exact cp
                  rw [hwq] at HB10 ⊢
                  clear hwq cx cp HB9
                  go_wp2_with fail
                  have HLQ := Lib.hid (keep (keep (keep HB1.out HB3.out) HB8.out) HB10.out)
                  have hcall := costOf_walk A m cap a b c i p wq (HL.out.keep HLQ.out) hm cc HCC.out
                  refine hcall.mono ?_
                  clear hcall
                  rintro e w11 ⟨rfl, h11⟩
                  subst w11
                  go_wp2_with fail
                  have hcall := spfFar_ok n p n p rfl rfl A m cap a b c wq (HL.out.keep HLQ.out) hm HG.out hp
                  refine hcall.mono ?_
                  clear hcall
                  rintro e w12 ⟨g12, rfl, -, hrow12, hb12⟩
                  have cy := hrow12.cell hkn
                  rw [HDP.out] at cy
                  have cx12 := (HX7.out.below (keep HB10.out hb12) HX7.out.lt).cell hkn
                  have hdk2 : endF i a b c m k = dk := by
                    have h1 := (HX7.out.below HB10.out HX7.out.lt).cell hkn
                    rw [cx10] at h1
                    simp only [Option.some.injEq, Value.int.injEq, true_and] at h1
                    exact h1.symm
                  rw [hdk2] at cx12
                  have HB12 := Lib.hid (keep HB10.out hb12)
                  have hw : IntKind.i64.wrap (dp + cc) = dp + cc := IntWalk.i64_in _ (by omega)
                  have g0 : (cc == 0) = false := beq_false_of_ne (by omega)
                  have g1 : (cc == 16) = false := beq_false_of_ne (by omega)
                  have g2 : (dp + cc == dk) = true := by have := HSUM.out; simp [this]
                  have g3 : (dp + cc != dk) = false := by have := HSUM.out; simp [this]
                  clear hrow12 hb12 hdk2 cx10 cp10 HB10 HLQ
                  go_wp2_with fail
                  go_quiet (fail)
                  go_wp2_with fail
                  go_roundw
                  case rel => exact ⟨k + 1, by omega, by go_num, below_drewN HB12.out _⟩
                  case measure => simp [intOf]; omega
              · have ek : k = n := by omega
                subst ek
                go_wp2_with fail
                go_roundw
                case rel => exact ⟨i + 1, by omega, by go_num, keep HB8.out HB9.out⟩
                case measure => simp [intOf]; omega
          · have ei : i = n := by omega
            subst ei
            go_wp2_with fail
            go_ret
            exact ⟨rfl, keep (keep HB1.out HB3.out) HB4.out⟩
  · have HF := Lib.hid hf
    clear hf
    refine (lineNew_bad x A m cap po a b c w1 (HL.out.keep HB1.out) hm v HF.out).mono ?_
    rintro e w2 ⟨rfl, hb2⟩
    have HB2 := Lib.hid (keep HB1.out hb2)
    clear hb2 HB1
    go_wp2_with fail
    go_ret
    exact ⟨rfl, HB2.out⟩

end Go.Proofs.YtbepfmcaolmhgaaDoor

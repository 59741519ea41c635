/- LfiReaches: where no cost changes, and all tell all neighbours as often as there are nodes, each thinks what it is far, and has a next one, if it is that near. For all arguments; no condition. -/
import Derived.Test.YtlemmphnmklbeaaLfiNet
import Derived.Test.YtlemmphnmklbeaaLfiSim
import Derived.Test.YtlemmphnmklbeaaBellRun
namespace Go.Proofs.Ytlemmphnmklbeaa
open Go.RowKit
set_option linter.unusedVariables false

theorem NetP.mono {wx w : World} {fr : Nat → Prop} {p0 n t C C' : Nat} {F : LS → Prop} (h : NetP wx fr p0 n t C w F) (hC : C ≤ C') : NetP wx fr p0 n t C' w F := by
  obtain ⟨lab, A, s, h1, h2, h3, h4, h5, h6, h7⟩ := h
  exact ⟨lab, A, s, h1, h2, h3, Nat.le_trans h4 hC, h5, h6, h7⟩

/-- The net goes with a net that tells one by one, of this kind. -/
def Goes (n t : Nat) (K : Nat → Nat → Int) (D : Nat → Int) (P : AS → Prop) (s : LS) : Prop := ∃ a, SimL K s a ∧ AInv n t K D a ∧ P a

section
variable {n t : Nat} {K : Nat → Nat → Int} {D : Nat → Int} {P P' : AS → Prop} {s : LS}
theorem Goes.imp (h : Goes n t K D P s) (hi : ∀ a, AInv n t K D a → P a → P' a) : Goes n t K D P' s := by
  obtain ⟨a, h1, h2, h3⟩ := h
  exact ⟨a, h1, h2, hi a h2 h3⟩
theorem Goes.send (h : Goes n t K D P s) (x y : Int) (hi : ∀ a, AInv n t K D a → P a → P' (a.send n K x y)) : Goes n t K D P' (s.send n x y) := by
  obtain ⟨a, h1, h2, h3⟩ := h
  exact ⟨_, h1.send x y, h2.send x y, hi a h2 h3⟩
theorem Goes.take (hK : CostM n K) (hR : RoundK n t K D D) (h : Goes n t K D P s) (x y : Int) (hi : ∀ a, AInv n t K D a → P a → P' (a.take n t K x y)) : Goes n t K D P' (s.take n t x y) := by
  obtain ⟨a, h1, h2, h3⟩ := h
  exact ⟨_, h1.take h2 hK x y, (h2.take hK hR x y).1, hi a h2 h3⟩
end

set_option maxRecDepth 100000 in
set_option maxHeartbeats 4000000 in
theorem lfiReaches_walk (x : Int) (A : Option Addr) (m cp : Nat) (a b c : Nat → Int) (y : Int) (w : World) (hl : Lnk w A m a b c) (hm : m ≤ 9223372036854775807) :
    Calls Try.prog 5 #[.int .i64 x, .slice A m cp, .int .i64 y] w fun e w' => e = .returned (.bool true) ∧ Below w.heap.size w w' := by
  have HL := Lib.hid hl
  clear hl
  go_enter Try.func5, Try.ntmps5
  go_wp2_with fail
  refine (free_walk w).mono ?_
  rintro e w1 ⟨rfl, hb1⟩
  have HB1 := Lib.hid hb1
  clear hb1
  go_wp2_with fail
  rcases bellRun_bad_aux x y m a b c with ⟨hg, h0, h1⟩ | ⟨v, hv, hf⟩
  · obtain ⟨n, rfl, hn1, hn8, hr⟩ := good_nat hg
    obtain ⟨t, rfl⟩ : ∃ t : Nat, y = t := ⟨y.toNat, by omega⟩
    have ht : t < n := by omega
    have hn8' : (n : Int) ≤ 8 := by omega
    have HG := Lib.hid hg
    have HR := Lib.hid hr
    clear hg hr h0 h1
    have hcall := lfiNew_ok n n rfl A m cp t t rfl a b c w1 (HL.out.keep HB1.out) hm HG.out ht
    refine hcall.mono ?_
    clear hcall
    rintro e w2 ⟨lab, Ad, rfl, hA, hlow, hb2⟩
    have HA := Lib.hid hA
    have HLO : Hid (∀ b, b < w.heap.size → lab b = []) := fun b hb => hlow b (Nat.lt_of_lt_of_le hb HB1.out.size)
    have HB2 := Lib.hid (keep HB1.out hb2)
    have HI0 : Hid (LInv n t (LS.new t (costF m a b c))) := LInv.new (cost_m HR.out)
    clear hA hlow hb2 HB1
    obtain ⟨fr, hfr⟩ : ∃ fr : Nat → Prop, fr = fun b => b < w.heap.size := ⟨_, rfl⟩
    obtain ⟨p0, hp0⟩ : ∃ p0, Ad.p = p0 := ⟨_, rfl⟩
    obtain ⟨K, hK⟩ : ∃ K, costF m a b c = K := ⟨_, rfl⟩
    obtain ⟨D, hD⟩ : ∃ D, endF t a b c m = D := ⟨_, rfl⟩
    obtain ⟨Z, hZ⟩ : ∃ Z, rounds t a b c m (startF t) = Z := ⟨_, rfl⟩
    have HFG1 : Hid (∀ b, b < w.heap.size → fr b) := by rw [hfr]; exact fun b hb => hb
    have HK : Hid (CostM n K) := by rw [← hK]; exact cost_m HR.out
    have HRD : Hid (RoundK n t K D D) := by rw [← hK, ← hD]; exact end_k HR.out
    have HRZ : Hid (∀ r, RoundK n t K (Z r) (Z (r + 1))) := by rw [← hK, ← hZ]; exact rounds_k HR.out _
    have HD0 : Hid (∀ i, i < n → 0 ≤ D i) := by rw [← hD]; exact fun i hi => (end_ranged HR.out i hi).1
    have HZ0 : Hid (∀ r i, i < n → 0 ≤ Z r i) := by rw [← hZ]; exact fun r i hi => (rounds_ranged HR.out (startF_ranged t n) r i hi).1
    have HZS : Hid (∀ i, i < n → Z 0 i = startF t i) := by rw [← hZ]; exact fun i hi => rfl
    have HZE : Hid (∀ i, i < n → Z n i = D i) := by rw [← hZ, ← hD]; exact fun i hi => end_fewer HR.out ht (by omega) i hi
    have HDD := Lib.hid hD
    have HN4 : Hid (NetP w2 fr p0 n t 0 w2 (Goes n t K D (RoR n K (Z 0)))) := by
      have hAI : AInv n t K D (AS.new t) := AInv.new HK.out HRD.out
      refine NetP.of HA.out HI0.out (Nat.le_refl _) hp0 ?_ ?_ (by rw [hK]; exact ⟨AS.new t, SimL.new t K, hAI, RoR.start hAI HZS.out fun _ _ => rfl⟩)
      · rw [hfr]; exact fun b hb => HLO.out b hb
      · rw [hfr]; exact fun b hb => Nat.lt_of_lt_of_le hb HB2.out.size
    have HFL : Hid (∀ (C : Nat) (wr : World) (F : LS → Prop), NetP w2 fr p0 n t C wr F → Below w.heap.size w wr) := fun C wr F h => HB2.out.trans (h.bel HFG1.out)
    rw [hp0]
    clear hfr hp0 hK hD hZ HA HLO HI0
    go_wp2_with fail
    go_loopw [10] (fun q wr => ∃ r : Nat, r ≤ n ∧ q = .int .i64 r ∧ NetP w2 fr p0 n t (1000 * r) wr (Goes n t K D (RoR n K (Z r)))) (fun q _ => n - (intOf q).toNat)
    case atStart => exact ⟨0, by omega, rfl, HN4.out⟩
    case round =>
      obtain ⟨r, hr, rfl, hN⟩ := hrel
      have HN := Lib.hid hN
      clear hN HN4
      by_cases hrn : r < n
      · have hrn' : (r : Int) < n := by omega
        have HNS := Lib.hid (HN.out.imp (G := Goes n t K D (RoS n K (Z r) 0 0)) fun s _ h => h.imp fun a _ h => h.all)
        clear HN
        go_wp2_with fail
        go_loopw [11] (fun q wr => ∃ a : Nat, a ≤ n ∧ q = .int .i64 a ∧ NetP w2 fr p0 n t (1000 * r + 10 * a) wr (Goes n t K D (RoS n K (Z r) a 0))) (fun q _ => n - (intOf q).toNat)
        case atStart => exact ⟨0, by omega, rfl, HNS.out⟩
        case round =>
          obtain ⟨a1, ha1, rfl, hN⟩ := hrel
          have HNA := Lib.hid hN
          clear hN HNS
          by_cases han : a1 < n
          · have han' : (a1 : Int) < n := by omega
            go_wp2_with fail
            go_loopw [12] (fun q wr => ∃ b : Nat, b ≤ n ∧ q = .int .i64 b ∧ NetP w2 fr p0 n t (1000 * r + 10 * a1 + b) wr (Goes n t K D (RoS n K (Z r) a1 b))) (fun q _ => n - (intOf q).toNat)
            case atStart => exact ⟨0, by omega, rfl, HNA.out⟩
            case round =>
              obtain ⟨b1, hb1, rfl, hN⟩ := hrel
              have HNB := Lib.hid hN
              clear hN HNA
              by_cases hbn : b1 < n
              · have hbn' : (b1 : Int) < n := by omega
                go_wp2_with fail
                refine (HNB.out.send hn8 (by unfold maxLen; omega) a1 b1 (G := Goes n t K D (RoS n K (Z r) a1 (b1 + 1))) fun s _ h => h.send a1 b1 fun a hI h => h.send hI han hbn).mono ?_
                rintro e w6 ⟨v, rfl, hN6⟩
                have HN6 := Lib.hid hN6
                clear hN6 HNB
                go_wp2_with fail
                go_roundw
                case rel => exact ⟨b1 + 1, by omega, by go_num, HN6.out⟩
                case measure => simp [intOf]; omega
              · have eb : b1 = n := by omega
                have HX := Lib.hid ((HNB.out.imp (G := Goes n t K D (RoS n K (Z r) (a1 + 1) 0)) fun s _ h => h.imp fun a _ h => by rw [eb] at h; exact h.row).mono (C' := 1000 * r + 10 * (a1 + 1)) (by omega))
                have d1 : decide (b1 < n) = false := decide_eq_false hbn
                have d2 : decide ((b1 : Int) < n) = false := decide_eq_false (by omega)
                have d3 : decide (n ≤ b1) = true := decide_eq_true (by omega)
                have HEB := Lib.hid eb
                clear eb HNB
                go_wp2_with fail
                go_roundw
                case rel => exact ⟨a1 + 1, by omega, by go_num, HX.out⟩
                case measure => simp [intOf]; omega
          · have ea : a1 = n := by omega
            have HX := Lib.hid ((HNA.out.imp (G := Goes n t K D (RoT n K (Z r) 0 0)) fun s _ h => h.imp fun a _ h => by rw [ea] at h; exact h.all).mono (C' := 1000 * r + 500) (by omega))
            have d1 : decide (a1 < n) = false := decide_eq_false han
            have d2 : decide ((a1 : Int) < n) = false := decide_eq_false (by omega)
            have d3 : decide (n ≤ a1) = true := decide_eq_true (by omega)
            have HEA := Lib.hid ea
            clear ea HNA
            go_wp2_with fail
            go_loopw [13] (fun q wr => ∃ a : Nat, a ≤ n ∧ q = .int .i64 a ∧ NetP w2 fr p0 n t (1000 * r + 500 + 10 * a) wr (Goes n t K D (RoT n K (Z r) a 0))) (fun q _ => n - (intOf q).toNat)
            case atStart => exact ⟨0, by omega, rfl, HX.out⟩
            case round =>
              obtain ⟨a2, ha2, rfl, hN⟩ := hrel
              have HNA := Lib.hid hN
              clear hN HX
              by_cases ha2n : a2 < n
              · have ha2n' : (a2 : Int) < n := by omega
                go_wp2_with fail
                go_loopw [14] (fun q wr => ∃ b : Nat, b ≤ n ∧ q = .int .i64 b ∧ NetP w2 fr p0 n t (1000 * r + 500 + 10 * a2 + b) wr (Goes n t K D (RoT n K (Z r) a2 b))) (fun q _ => n - (intOf q).toNat)
                case atStart => exact ⟨0, by omega, rfl, HNA.out⟩
                case round =>
                  obtain ⟨b2, hb2, rfl, hN⟩ := hrel
                  have HNB := Lib.hid hN
                  clear hN HNA
                  by_cases hb2n : b2 < n
                  · have hb2n' : (b2 : Int) < n := by omega
                    go_wp2_with fail
                    refine (HNB.out.take hn8 (by unfold maxLen; omega) a2 b2 (G := Goes n t K D (RoT n K (Z r) a2 (b2 + 1))) fun s _ h => h.take HK.out HRD.out a2 b2 fun a hI h => h.take hI HK.out HRD.out ha2n hb2n).mono ?_
                    rintro e w6 ⟨v, rfl, hN6⟩
                    have HN6 := Lib.hid hN6
                    clear hN6 HNB
                    go_wp2_with fail
                    go_roundw
                    case rel => exact ⟨b2 + 1, by omega, by go_num, HN6.out⟩
                    case measure => simp [intOf]; omega
                  · have eb : b2 = n := by omega
                    have HY := Lib.hid ((HNB.out.imp (G := Goes n t K D (RoT n K (Z r) (a2 + 1) 0)) fun s _ h => h.imp fun a _ h => by rw [eb] at h; exact h.row).mono (C' := 1000 * r + 500 + 10 * (a2 + 1)) (by omega))
                    have f1 : decide (b2 < n) = false := decide_eq_false hb2n
                    have f2 : decide ((b2 : Int) < n) = false := decide_eq_false (by omega)
                    have f3 : decide (n ≤ b2) = true := decide_eq_true (by omega)
                    have HEB := Lib.hid eb
                    clear eb HNB
                    go_wp2_with fail
                    go_roundw
                    case rel => exact ⟨a2 + 1, by omega, by go_num, HY.out⟩
                    case measure => simp [intOf]; omega
              · have ea : a2 = n := by omega
                have HY := Lib.hid ((HNA.out.imp (G := Goes n t K D (RoR n K (Z (r + 1)))) fun s _ h => h.imp fun a hI h => by rw [ea] at h; exact h.all hI HK.out (HZ0.out r) (HRZ.out r)).mono (C' := 1000 * (r + 1)) (by omega))
                have f1 : decide (a2 < n) = false := decide_eq_false ha2n
                have f2 : decide ((a2 : Int) < n) = false := decide_eq_false (by omega)
                have f3 : decide (n ≤ a2) = true := decide_eq_true (by omega)
                have HEA2 := Lib.hid ea
                clear ea HNA
                go_wp2_with fail
                go_roundw
                case rel => exact ⟨r + 1, by omega, by go_num, HY.out⟩
                case measure => simp [intOf]; omega
      · have er : r = n := by omega
        have HX := Lib.hid (HN.out.imp (G := fun s => ∀ i, i < n → s.f i = D i ∧ (i ≠ t → D i < 16 → 0 < (s.nexts n t i).length) ∧ (s.nexts n t i).length ≤ n ∧ (i = t → (s.nexts n t i).length = 0)) fun s _ h => by
          obtain ⟨a, hS, hI, hP⟩ := h
          rw [er] at hP
          intro i hi
          have hf : a.f i = D i := Int.le_antisymm (by have := hP.1 i hi; rw [HZE.out i hi] at this; exact this) (hI.low i hi)
          refine ⟨by rw [hS.f]; exact hf, fun hit h16 => hS.has_next hI HK.out HD0.out hi hit (by rw [hf]; exact h16), pickL_len _ _, fun e => by rw [e, nexts_self]; rfl⟩)
        have d1 : decide (r < n) = false := decide_eq_false hrn
        have d2 : decide ((r : Int) < n) = false := decide_eq_false (by omega)
        have d3 : decide (n ≤ r) = true := decide_eq_true (by omega)
        have HER := Lib.hid er
        clear er HN
        go_wp2_with fail
        have hcall := bellRun_ok n t n t rfl rfl A m cp a b c wr (HL.out.keep (HFL.out _ _ _ HX.out)) hm HG.out ht
        rw [HDD.out] at hcall
        refine hcall.mono ?_
        clear hcall
        rintro e w7 ⟨gf, kk, rfl, -, hrow, -, hb7⟩
        have HFR := Lib.hid hrow
        have HN7 := Lib.hid (HX.out.below hb7)
        clear hrow hb7 HX
        go_wp2_with fail
        go_loopw [18] (fun q wr => ∃ i : Nat, i ≤ n ∧ q = .int .i64 i ∧ Below w7.heap.size w7 wr) (fun q _ => n - (intOf q).toNat)
        case atStart => exact ⟨0, by omega, rfl, Below.refl _ _⟩
        case round =>
          obtain ⟨i, hi, rfl, hb⟩ := hrel
          have HB := Lib.hid hb
          clear hb
          by_cases hin : i < n
          · have hin' : (i : Int) < n := by omega
            have HN8 := Lib.hid (HN7.out.below HB.out)
            obtain ⟨lab8, A8, s8, hp8, hA8, hI8, -, -, -, hF8⟩ := HN8.out
            obtain ⟨hf1, hf2, hf3, hf4⟩ := hF8 i hin
            have hcall := lfiDist_at hA8 hn8 i i rfl hin
            rw [hf1, hp8] at hcall
            have HC := Lib.hid hcall
            have hcall2 := lfiNexts lab8 A8 n t s8 i i rfl wr hA8 hn8 hin
            rw [hp8] at hcall2
            obtain ⟨L, hL⟩ : ∃ L, s8.nexts n t i = L := ⟨_, rfl⟩
            rw [hL] at hcall2 hf2 hf3 hf4
            have HC2 := Lib.hid hcall2
            have HF2 := Lib.hid hf2
            have HF4 := Lib.hid hf4
            obtain ⟨d, hd⟩ : ∃ d, D i = d := ⟨_, rfl⟩
            rw [hd] at HC HF2
            have HFD : Hid (RowP w7 gf 3 n (fun i => .int .i64 (D i))) := HFR
            have HDI := Lib.hid hd
            clear hcall hcall2 hA8 hI8 hF8 hp8 hf1 hf2 hf4 hL hd HN8
            go_wp2_with fail
            refine HC.out.mono ?_
            rintro e w8 ⟨rfl, h8⟩
            subst w8
            clear HC
            go_wp2_with fail
            refine HC2.out.mono ?_
            rintro e w8 ⟨v8, rfl, hv8, hb8⟩
            obtain ⟨Av, cv, rfl, -⟩ := hv8.vec
            have HB8 := Lib.hid (keep HB.out hb8)
            have c1 := (HFR.out.below HB8.out HFR.out.lt).cell hin
            rw [HDI.out] at c1
            clear hv8 hb8 HC2 HB
            have b0 : (d != d) = false := by simp
            have b0' : (d == d) = true := by simp
            by_cases hit : i = t
            · have hl0 : L.length = 0 := HF4.out hit
              have e1 : ((i : Int) != (t : Int)) = false := by simp [hit]
              have e2 : (i != t) = false := by simp [hit]
              have e3 : ((i : Int) == (t : Int)) = true := by simp [hit]
              have e4 : (i == t) = true := by simp [hit]
              have HIT := Lib.hid hit
              rw [hl0]
              clear hit hl0 hf3
              go_wp2_with fail
              go_roundw
              case rel => exact ⟨i + 1, by omega, by go_num, HB8.out⟩
              case measure => simp [intOf]; omega
            · have e1 : ((i : Int) != (t : Int)) = true := bne_iff_ne.2 (by omega)
              have e2 : (i != t) = true := bne_iff_ne.2 hit
              have e3 : ((i : Int) == (t : Int)) = false := beq_false_of_ne (by omega)
              have e4 : (i == t) = false := beq_false_of_ne hit
              by_cases h16 : d < 16
              · have hlp := HF2.out hit h16
                have e5 : decide (d < 16) = true := decide_eq_true h16
                have e6 : ((L.length : Int) == 0) = false := beq_false_of_ne (by omega)
                have e7 : (L.length == 0) = false := beq_false_of_ne (by omega)
                clear hit
                go_wp2_with fail
                go_roundw
                case rel => exact ⟨i + 1, by omega, by go_num, HB8.out⟩
                case measure => simp [intOf]; omega
              · have e5 : decide (d < 16) = false := decide_eq_false h16
                clear hit
                go_wp2_with fail
                go_roundw
                case rel => exact ⟨i + 1, by omega, by go_num, HB8.out⟩
                case measure => simp [intOf]; omega
          · have d4 : decide (i < n) = false := decide_eq_false hin
            have d5 : decide ((i : Int) < n) = false := decide_eq_false (by omega)
            have d6 : decide (n ≤ i) = true := decide_eq_true (by omega)
            go_wp2_with fail
            go_ret
            exact ⟨rfl, HFL.out _ _ _ (HN7.out.below HB.out)⟩
  · have hbad : Calls Try.prog 7 #[.int .i64 x, .slice A m cp, .int .i64 y] w1 fun e w' => e = .returned (.tuple #[.pointer none, errNo v]) ∧ Below w1.heap.size w1 w' := by
      rcases hf with hf | ⟨hg, hy, rfl⟩
      · exact lfiNew_bad x A m cp y a b c w1 (HL.out.keep HB1.out) hm v hv hf
      · obtain ⟨n, rfl, hn1, hn8, hr⟩ := good_nat hg
        exact lfiNew_range n n rfl A m cp y a b c w1 (HL.out.keep HB1.out) hm hg hy
    have HC := Lib.hid hbad
    clear hbad hf hv
    refine HC.out.mono ?_
    rintro e w2 ⟨rfl, hb2⟩
    have HB2 := Lib.hid (keep HB1.out hb2)
    clear hb2 HB1 HC
    go_wp2_with fail
    go_ret
    exact ⟨rfl, HB2.out⟩

end Go.Proofs.Ytlemmphnmklbeaa

/- LineCounts: behind a cut all is right again in sixteen steps and as many more as there are nodes. For all arguments. -/
import Derived.Test.YtbepfmcaolmhgaaDoorLineSettles
import Derived.Test.YtbepfmcaolmhgaaDoorLineCut
namespace Go.Proofs.YtbepfmcaolmhgaaDoor
open Go.RowKit
set_option linter.unusedVariables false

/-- Whatever they thought, behind so many steps all is right. -/
theorem line_recovers {po : Bool} {n m : Nat} {a b c : Nat → Int} {S0 : Nat → Nat → Int × Int} (hr : Right n m a b c) (h0 : ∀ k t, k < n → t < n → 0 ≤ (S0 k t).1 ∧ (S0 k t).1 ≤ 16) {i k : Nat} (hi : i < n) (hk : k < n) :
    (lineS po n (costF m a b c) S0 (16 + n) i k).1 = endF i a b c m k := by
  have hK := cost_m hr
  have hD := far_end hr hk
  have h := line_comes (po := po) hK hk hD (fun r => rounds k a b c m (startF k) r) (fun _ _ => rfl) (fun r => rounds_k hr _ r) (fun r i hi => fixed_below (edge_good hr) (end_fixed hr) (fun r => rounds k a b c m (startF k) r) (fun r => rounds_round hr _ r) (fun _ _ => rfl) r i hi)
    (fun r q => (lineS po n (costF m a b c) S0 r q k).1) (fun r q => (lineS po n (costF m a b c) S0 r q k).2) (fun q hq => h0 q k hq hk) (fun r => lineS_step r k) n i hi (end_fewer hr hk (by omega) i hi)
  rw [← hD.back hK hk hi (far_end hr hi)]
  exact h

set_option maxRecDepth 100000 in
set_option maxHeartbeats 8000000 in
theorem lineCounts_walk (x : Int) (A : Option Addr) (m cap : Nat) (a b c : Nat → Int) (po : Bool) (z : Int) (w : World) (hN : NobT w) (hl : Lnk w A m a b c) (hm : m ≤ 9223372036854775807) :
    Calls Tryd.prog 5 #[.int .i64 x, .slice A m cap, .bool po, .int .i64 z] w fun e w' => e = .returned (.bool true) ∧ Below w.heap.size w w' := by
  have HL := Lib.hid hl
  have HN := Lib.hid hN
  have HGL := Lib.hid (World.block_lt_of_cell? w _ hN.1)
  clear hl hN
  go_enter Tryd.func5, Tryd.ntmps5
  go_wp2_with fail
  refine (lined_walk w HN.out).mono ?_
  rintro e w1 ⟨rfl, hb1⟩
  have HB1 := Lib.hid hb1
  clear hb1
  go_wp2_with fail
  rcases graph_cases x m a b c with hg | ⟨v, -, hf⟩
  · obtain ⟨n, rfl, hn1, hn8, hr⟩ := good_nat hg
    have hn8' : (n : Int) ≤ 8 := by omega
    have HG := Lib.hid hg
    have HR := Lib.hid hr
    have HK := Lib.hid (cost_m hr)
    clear hg hr
    have hcall := lineNew_ok n n rfl A m cap po a b c w1 (HN.out.keep HB1.out) (HL.out.keep HB1.out) hm HG.out
    refine hcall.mono ?_
    clear hcall
    rintro e w2 ⟨s, rfl, hL, hb2⟩
    have HL2 : Hid (LineH w2 w1.heap.size s po n m a b c (fun i t => (lineS po n (costF m a b c) startS 0 i t).1) (fun i t => (lineS po n (costF m a b c) startS 0 i t).2)) := hL
    have HB2 := Lib.hid hb2
    clear hL hb2
    rcases (show z < 0 ∨ (0 ≤ z ∧ (m : Int) ≤ z) ∨ (0 ≤ z ∧ z < m) by omega) with hz | ⟨hz0, hz1⟩ | ⟨hz0, hz1⟩
    · go_wp2_with fail
      go_ret
      exact ⟨rfl, keep HB1.out HB2.out⟩
    · have hd1 : decide (z < 0) = false := decide_eq_false (by omega)
      go_wp2_with fail
      go_ret
      exact ⟨rfl, keep HB1.out HB2.out⟩
    · obtain ⟨j, rfl⟩ : ∃ j : Nat, z = j := ⟨z.toNat, by omega⟩
      have hj : j < m := by omega
      have hd1 : decide ((j : Int) < 0) = false := decide_eq_false (by omega)
      have hd2 : decide (m ≤ j) = false := decide_eq_false (by omega)
      clear hz0 hz1
      go_wp2_with fail
      clear hd1 hd2
      go_loopw [12] (fun q wr => ∃ r : Nat, r ≤ n ∧ q = .int .i64 r ∧ LineH wr w1.heap.size s po n m a b c (fun i t => (lineS po n (costF m a b c) startS r i t).1) (fun i t => (lineS po n (costF m a b c) startS r i t).2) ∧ Below w1.heap.size w1 wr) (fun q _ => n - (intOf q).toNat)
      case atStart => exact ⟨0, by omega, rfl, HL2.out, HB2.out⟩
      case round =>
        obtain ⟨r, hr, rfl, hL, hb⟩ := hrel
        have HL3 := Lib.hid hL
        have HB3 := Lib.hid hb
        clear hL hb HL2 HB2
        by_cases hrN : r < n
        · have hlt : (r : Int) < (n : Int) := by omega
          have hcall := lineStep s n m _ po a b c _ _ wr (HN.out.keep (keep HB1.out HB3.out)) HL3.out hn1 hn8 hm HR.out (lineS_ranged HK.out startS_ranged r) HL3.out.lo_lt
          have HC := Lib.hid hcall
          clear hcall
          go_wp2_with fail
          refine HC.out.mono ?_
          rintro e w4 ⟨rfl, hL4, hb4⟩
          have HL4 : Hid (LineH w4 w1.heap.size s po n m a b c (fun i t => (lineS po n (costF m a b c) startS (r + 1) i t).1) (fun i t => (lineS po n (costF m a b c) startS (r + 1) i t).2)) := hL4
          have HB4 : Hid (Below w1.heap.size w1 w4) := HB3.out.trans hb4.bel
          clear hL4 hb4 HC HL3 HB3
          go_wp2_with fail
          go_roundw
          case rel => exact ⟨r + 1, by omega, by go_num, HL4.out, HB4.out⟩
          case measure => simp [intOf]; omega
        · have er : r = n := by omega
          subst er
          obtain ⟨wo, hwo⟩ : ∃ wo : World, wo = wr := ⟨_, rfl⟩
          rw [← hwo] at HL3 HB3 ⊢
          clear hwo
          have HBO := Lib.hid (keep HB1.out HB3.out)
          obtain ⟨hpn, hsn, hps, hk0, hk1, ea, eb⟩ := right_nat HR.out hj
          obtain ⟨ad, rfl, hc0, hc1, hc2⟩ := HL.out.cells HBO.out j hj
          obtain ⟨P, hP⟩ : ∃ P, nA a j = P := ⟨_, rfl⟩
          obtain ⟨Q, hQ⟩ : ∃ Q, nA b j = Q := ⟨_, rfl⟩
          have hmt : Mt a b j P Q := .inl ⟨by rw [ea, hP], by rw [eb, hQ]⟩
          have HMT := Lib.hid hmt
          rw [ea, hP] at hc0
          rw [eb, hQ] at hc1
          rw [hP] at hpn hps
          rw [hQ] at hsn hps
          clear ea eb hP hQ hmt hc2
          have hal : ad.block < w.heap.size := by
            obtain ⟨ad', e, hlt, -⟩ := HL.out j hj
            injection e with e
            subst e
            exact hlt
          have hjm : (j : Int) < m := by omega
          have HC := Lib.hid (show (wo.drew.cell? (ad.add (j * 3)) = some (.int .i64 P)) ∧ (wo.drew.cell? ⟨(ad.add (j * 3)).block, (ad.add (j * 3)).off + 1, none⟩ = some (.int .i64 Q)) from ⟨hc0, hc1⟩)
          have HAL : Hid ((ad.add (j * 3)).block < w1.heap.size) := by
            rw [block_of_add]
            exact Nat.lt_of_lt_of_le hal HB1.out.size
          have HSO := Lib.hid HB3.out.size
          have HKP : Hid (∀ w4, Below w1.heap.size wo.drew w4 → (w4.cell? (ad.add (j * 3)) = some (.int .i64 P)) ∧ (w4.cell? ⟨(ad.add (j * 3)).block, (ad.add (j * 3)).off + 1, none⟩ = some (.int .i64 Q))) := fun w4 hb => ⟨(hb.cell HAL.out).trans HC.out.1, (hb.cell (p := ⟨(ad.add (j * 3)).block, (ad.add (j * 3)).off + 1, none⟩) HAL.out).trans HC.out.2⟩
          clear hal
          go_wp2_with fail
          go_region_held3 (fun w' => w'.cell? (ad.add (j * 3)) = some (.int .i64 P) ∧ w'.cell? ⟨(ad.add (j * 3)).block, (ad.add (j * 3)).off + 1, none⟩ = some (.int .i64 Q))
            (first | exact HC.out | exact HKP.out _ (hb4.mono HSO.out) | go_keep)
            (first | (go_at_call 18; refine (cut_ok r P Q (some ad) m cap j a b c _ (HL.out.keep HBO.out.drew) hm HG.out hj HMT.out).mono ?_; rintro e w4 ⟨g4, cap4, rfl, hg4, hrow4, hb4⟩))
          all_goals
            have hb24 : Below wo.heap.size wo w4 := ((Below.refl wo.heap.size wo).drew).trans hb4
            have HB4 := Lib.hid (keep HB3.out hb24)
            have HL4 := Lib.hid (HL3.out.below hb24)
            have HR4 := Lib.hid hrow4
            have hs4 := HKP.out _ (hb4.mono HSO.out)
            have hc0 := hs4.1
            have hc1 := hs4.2
            have HC4 := Lib.hid (show (w4.drew.cell? (ad.add (j * 3)) = some (.int .i64 P)) ∧ (w4.drew.cell? ⟨(ad.add (j * 3)).block, (ad.add (j * 3)).off + 1, none⟩ = some (.int .i64 Q)) from hs4)
            have HKP4 : Hid (∀ w5, Below w1.heap.size w4.drew w5 → (w5.cell? (ad.add (j * 3)) = some (.int .i64 P)) ∧ (w5.cell? ⟨(ad.add (j * 3)).block, (ad.add (j * 3)).off + 1, none⟩ = some (.int .i64 Q))) := fun w5 hb => ⟨(hb.cell HAL.out).trans HC4.out.1, (hb.cell (p := ⟨(ad.add (j * 3)).block, (ad.add (j * 3)).off + 1, none⟩) HAL.out).trans HC4.out.2⟩
            clear hb24 hb4 hrow4 hs4 HC HKP HL3 HB3 HBO
            go_wp2_with fail
            have HNL : Hid (0 < w1.heap.size) := Nat.lt_of_lt_of_le HGL.out HB1.out.size
            have HL4d := Lib.hid (HL4.out.below ((Below.refl w4.heap.size w4).drew))
            have HN4 := Lib.hid (HN.out.keep ((keep HB1.out HB4.out).drew))
            have HS4 := Lib.hid HB4.out.size
            go_region_held3 (fun w' => w'.cell? (ad.add (j * 3)) = some (.int .i64 P) ∧ w'.cell? ⟨(ad.add (j * 3)).block, (ad.add (j * 3)).off + 1, none⟩ = some (.int .i64 Q))
              (first | exact HC4.out | exact HKP4.out _ hb5.bel | go_keep)
              (first | (go_at_call 11; refine (lineCut_ok s r m j P Q _ po a b c (lineS po r (costF m a b c) startS r) _ HN4.out HL4d.out hn1 hn8 hm HR.out hj hpn hsn hps HMT.out HS4.out HNL.out).mono ?_; rintro e w5 ⟨rfl, hL5, hb5⟩))
            all_goals
              have hb45 : Below w1.heap.size w4 w5 := ((Below.refl w1.heap.size w4).drew).trans hb5.bel
              obtain ⟨S0, hS0⟩ : ∃ S0, bothCut P Q (lineS po r (costF m a b c) startS r) = S0 := ⟨_, rfl⟩
              have HS0 : Hid (∀ k t, k < r → t < r → 0 ≤ (S0 k t).1 ∧ (S0 k t).1 ≤ 16) := by
                rw [← hS0]
                exact cut_ranged (lineS_ranged HK.out startS_ranged r)
              rw [hS0] at hL5
              have HL5 : Hid (LineH w5 w1.heap.size s po r (m - 1) (dropF j a) (dropF j b) (dropF j c) (fun i t => (lineS po r (costF (m - 1) (dropF j a) (dropF j b) (dropF j c)) S0 0 i t).1) (fun i t => (lineS po r (costF (m - 1) (dropF j a) (dropF j b) (dropF j c)) S0 0 i t).2)) := hL5
              clear hS0
              have HB5 : Hid (Below w1.heap.size w1 w5) := HB4.out.trans hb45
              have hr4d : RowP w4.drew g4 32 ((m - 1) * 3) (linkC (dropF j a) (dropF j b) (dropF j c)) := HR4.out.below ((Below.refl w4.heap.size w4).drew) HR4.out.lt
              have HR5 : Hid (RowP w5 g4 32 ((m - 1) * 3) (linkC (dropF j a) (dropF j b) (dropF j c))) := hr4d.keepO hb5.keep (by decide) (by decide)
              have HRD := Lib.hid (right_drop HR.out hj)
              clear hb45 hb5 hL5 HL4 HL4d HN4 HB4 HC4 HKP4 hc0 hc1 hr4d HR4
              go_wp2_with fail
              have HKD := Lib.hid (cost_m HRD.out)
              have HGD : Hid (GoodG (r : Int) (m - 1) (dropF j a) (dropF j b) (dropF j c)) := ⟨by omega, by omega, by simpa using HRD.out⟩
              have HM1 : Hid (m - 1 ≤ 9223372036854775807) := Nat.le_trans (Nat.sub_le _ _) hm
              have hcutl : (r : Int) + 16 ≤ 24 := by omega
              clear HL HR HG HK
              go_loopw [15] (fun q wr => ∃ t : Nat, t ≤ 16 + r ∧ q = .int .i64 t ∧ LineH wr w1.heap.size s po r (m - 1) (dropF j a) (dropF j b) (dropF j c) (fun i k => (lineS po r (costF (m - 1) (dropF j a) (dropF j b) (dropF j c)) S0 t i k).1) (fun i k => (lineS po r (costF (m - 1) (dropF j a) (dropF j b) (dropF j c)) S0 t i k).2) ∧ RowP wr g4 32 ((m - 1) * 3) (linkC (dropF j a) (dropF j b) (dropF j c)) ∧ Below w1.heap.size w1 wr) (fun q _ => 16 + r - (intOf q).toNat)
              case atStart => exact ⟨0, by omega, rfl, HL5.out, HR5.out, HB5.out⟩
              case round =>
                obtain ⟨t, ht, rfl, hL, hR, hb⟩ := hrel
                have HL6 := Lib.hid hL
                have HR6 := Lib.hid hR
                have HB6 := Lib.hid hb
                clear hL hR hb HL5 HR5 HB5
                by_cases hrN : t < 16 + r
                · have hlt : (t : Int) < 16 + (r : Int) := by omega
                  have hcall := lineStep s r (m - 1) _ po (dropF j a) (dropF j b) (dropF j c) _ _ wr (HN.out.keep (keep HB1.out HB6.out)) HL6.out hn1 hn8 HM1.out HRD.out (lineS_ranged HKD.out HS0.out t) HL6.out.lo_lt
                  have HC := Lib.hid hcall
                  clear hcall
                  go_wp2_with fail
                  refine HC.out.mono ?_
                  rintro e w7 ⟨rfl, hL7, hb7⟩
                  have HL7 : Hid (LineH w7 w1.heap.size s po r (m - 1) (dropF j a) (dropF j b) (dropF j c) (fun i k => (lineS po r (costF (m - 1) (dropF j a) (dropF j b) (dropF j c)) S0 (t + 1) i k).1) (fun i k => (lineS po r (costF (m - 1) (dropF j a) (dropF j b) (dropF j c)) S0 (t + 1) i k).2)) := hL7
                  have HB7 : Hid (Below w1.heap.size w1 w7) := HB6.out.trans hb7.bel
                  have HR7 := Lib.hid (HR6.out.keepO hb7.keep (by decide) (by decide))
                  clear hL7 hb7 HC HL6 HB6 HR6
                  go_wp2_with fail
                  go_roundw
                  case rel => exact ⟨t + 1, by omega, by go_num, HL7.out, HR7.out, HB7.out⟩
                  case measure => simp [intOf]; omega
                · have et : t = 16 + r := by omega
                  subst et
                  obtain ⟨wo, hwo⟩ : ∃ wo : World, wo = wr := ⟨_, rfl⟩
                  rw [← hwo] at HL6 HR6 HB6 ⊢
                  clear hwo
                  have HREC := Lib.hid (fun i k hi hk => line_recovers (po := po) (S0 := S0) HRD.out HS0.out (i := i) (k := k) hi hk)
                  go_wp2_with fail
                  go_loopw [16] (fun q wi => ∃ i : Nat, i ≤ r ∧ q = .int .i64 i ∧ Below wo.heap.size wo wi) (fun q _ => r - (intOf q).toNat)
                  case atStart => exact ⟨0, by omega, rfl, Below.refl _ _⟩
                  case round =>
                    obtain ⟨i, hi, rfl, hb⟩ := hrel
                    have HB7 := Lib.hid hb
                    clear hb
                    by_cases hin : i < r
                    · have hin' : (i : Int) < r := by omega
                      go_wp2_with fail
                      have hcall := lineRow_ok s r (m - 1) i i rfl _ po _ _ _ _ _ wr (HL6.out.below HB7.out) hin hn8
                      refine hcall.mono ?_
                      clear hcall
                      rintro e w8 ⟨v8, rfl, hV8, hb8⟩
                      obtain ⟨A8, c8, rfl, hv8⟩ := hV8.vec
                      have HV8 := Lib.hid hv8
                      have HB8 := Lib.hid (keep HB7.out hb8)
                      clear hV8 hv8 hb8 HB7
                      go_wp2_with fail
                      have hcall := spfFar_ok r i r i rfl rfl (some ⟨g4, 0, none⟩) (m - 1) cap4 _ _ _ w8 (HR6.out.below HB8.out HR6.out.lt).lnk HM1.out HGD.out hin
                      refine hcall.mono ?_
                      clear hcall
                      rintro e w9 ⟨g9, rfl, -, hrow9, hb9⟩
                      have HX9 := Lib.hid hrow9
                      have HV9 := Lib.hid (HV8.out.keep hb9)
                      have HB9 := Lib.hid (keep HB8.out hb9)
                      clear hrow9 hb9 HB8 HV8
                      go_wp2_with fail
                      have hcall := ints_walk A8 (some ⟨g9, 0, none⟩) r r c8 r _ _ w9 HV9.out HX9.out.vec (by omega) (by omega) true ⟨fun _ => ⟨rfl, fun k hk => HREC.out i k hin hk⟩, fun _ => rfl⟩
                      refine hcall.mono ?_
                      clear hcall
                      rintro e w10 ⟨rfl, k10, hw10⟩
                      have HB10 : Hid (Below wo.heap.size wo w10) := by subst w10; exact below_drewN HB9.out k10
                      clear hw10 HB9 HX9 HV9
                      go_wp2_with fail
                      refine ⟨?_, ?measure⟩
                      · iterate 38 apply Exists.intro
                        refine ⟨⟨i + 1, by omega, ?_, HB10.out⟩, rfl⟩
                        go_num
                      case measure => simp [intOf]; omega
                    · go_wp2_with fail
                      go_ret
                      exact ⟨rfl, keep HB1.out (HB6.out.trans (HB7.out.mono HB6.out.size))⟩
  · have HF := Lib.hid hf
    clear hf
    refine (lineNew_bad x A m cap po a b c w1 (HL.out.keep HB1.out) hm v HF.out).mono ?_
    rintro e w2 ⟨rfl, hb2⟩
    have HB2 := Lib.hid (keep HB1.out hb2)
    clear hb2 HB1
    go_wp2_with fail
    go_ret
    exact ⟨rfl, HB2.out⟩

end Go.Proofs.YtbepfmcaolmhgaaDoor

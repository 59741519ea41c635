/- WaysCounts: as many shortest ways as from those next ones that are nearer by just the link's cost; as many there as back. For all arguments; no condition. -/
import Derived.Test.YtlbdbfmgkappaaaFirst
import Derived.Test.YtlbdbfmgkappaaaCost
namespace Go.Proofs.Ytlbdbfmgkappaaa
open Go.RowKit
set_option linter.unusedVariables false

set_option maxRecDepth 100000 in
set_option maxHeartbeats 1000000 in
theorem gone_walk (w : World) :
    Calls Try.prog 12 #[] w fun e w' => e = .returned (.bool true) ∧ Below w.heap.size w w' := by
  have hr : Right 2 1 (fun _ => 0) (fun _ => 1) (fun _ => 3) := right_lit
  have hD := far_end (t := 1) hr (by omega)
  have hK := cost_m hr
  have h01 : endF 1 (fun _ => 0) (fun _ => 1) (fun _ => 3) 1 0 < 16 := by
    have h1 := hD.tri 0 1 (by omega) (by omega)
    rw [hD.zero] at h1
    have h2 : costF 1 (fun _ => 0) (fun _ => 1) (fun _ => 3) 0 1 = 3 := by decide
    omega
  obtain ⟨-, -, hn2, hne2, -⟩ := stp_at hK hD (i := 0) (by omega) (by omega) h01
  have HF : Hid (fstF 2 1 (costF 1 (fun _ => 0) (fun _ => 1) (fun _ => 3)) (endF 1 (fun _ => 0) (fun _ => 1) (fun _ => 3) 1) 0 1 = 1) := by
    show stpF 2 1 (costF 1 (fun _ => 0) (fun _ => 1) (fun _ => 3)) (endF 1 (fun _ => 0) (fun _ => 1) (fun _ => 3) 1) 0 = 1
    omega
  clear hD hK hn2 hne2 hr
  go_enter Try.func12, Try.ntmps12
  go_wp2_with fail
  have hcall := first_ok 2 0 1 2 0 1 rfl rfl rfl (some ⟨w.heap.size, 0, none⟩) 1 1 (fun _ => 0) (fun _ => 1) (fun _ => 3) _ (lnk_lit w) (by omega) good_lit (by omega) (by omega) h01
  refine hcall.mono ?_
  clear hcall
  rintro e w1 ⟨k, v, ⟨hk, hk2⟩, -, rfl, hown, hb⟩
  have ek : k = 1 := by
    rcases Nat.lt_trichotomy k 1 with h | h | h
    · have e0 : k = 0 := by omega
      subst e0
      exact absurd hk (by show (0 : Nat) ≠ 1; omega)
    · exact h
    · exact absurd HF.out (hk2 1 h)
  subst ek
  obtain ⟨Av, cv, rfl, hv⟩ := hown.vec
  have HV := Lib.hid hv
  have HB : Hid (Below w.heap.size w w1) := keepAlloc (Below.refl _ _) hb
  clear hown hb hv hk hk2 h01
  go_wp2_with fail
  have hcall := ints_walk Av (some ⟨w1.heap.size, 0, none⟩) 2 2 cv 2 _ (fun i => if i = 0 then 0 else 1) _ (HV.out.keep ((Below.refl _ _).alloc (Nat.le_refl _) (.cells #[.int .i64 0, .int .i64 1] 3)))
    (fun j hj => ⟨_, rfl, (Blk.new w1 3 #[.int .i64 0, .int .i64 1]).lt, by
      rw [Addr.add_lit, (Blk.new w1 3 #[.int .i64 0, .int .i64 1]).cell]
      have h : j = 0 ∨ j = 1 := by omega
      rcases h with rfl | rfl <;> rfl⟩) (by omega) (by omega) true ⟨fun _ => ⟨rfl, fun i hi => by
        have h : i = 0 ∨ i = 1 := by omega
        rcases h with rfl | rfl
        · rfl
        · show ((fstF 2 1 _ _ 0 1 : Nat) : Int) = 1
          rw [HF.out]; rfl⟩, fun _ => rfl⟩
  refine hcall.mono ?_
  clear hcall
  rintro e w2 ⟨rfl, k2, rfl⟩
  go_wp2_with fail
  go_ret
  exact ⟨rfl, below_drewN (HB.out.alloc HB.out.size _) _⟩

/-- Both are nodes, or it is refused. -/
theorem badW_aux (x z y : Int) (m : Nat) (a b c : Nat → Int) : (GoodG x m a b c ∧ (0 ≤ y ∧ y < x) ∧ (0 ≤ z ∧ z < x)) ∨ ∃ v, (v = 1 ∨ v = 3 ∨ v = 5) ∧ BadW x m a b c z y v := by
  rcases graph_cases x m a b c with hg | ⟨v, hv, hf⟩
  · by_cases h1 : (0 ≤ y ∧ y < x) ∧ (0 ≤ z ∧ z < x)
    · exact .inl ⟨hg, h1⟩
    · exact .inr ⟨1, .inl rfl, .inr ⟨hg, by omega, rfl⟩⟩
  · exact .inr ⟨v, hv, .inl hf⟩

set_option maxRecDepth 100000 in
set_option maxHeartbeats 4000000 in
theorem waysCounts_walk (x : Int) (A : Option Addr) (m cp : Nat) (a b c : Nat → Int) (z y : Int) (w : World) (hl : Lnk w A m a b c) (hm : m ≤ 9223372036854775807) :
    Calls Try.prog 4 #[.int .i64 x, .slice A m cp, .int .i64 z, .int .i64 y] w fun e w' => e = .returned (.bool true) ∧ Below w.heap.size w w' := by
  have HL := Lib.hid hl
  clear hl
  go_enter Try.func4, Try.ntmps4
  go_wp2_with fail
  refine (gone_walk w).mono ?_
  rintro e w1 ⟨rfl, hb1⟩
  have HB1 := Lib.hid hb1
  clear hb1
  go_wp2_with fail
  rcases badW_aux x z y m a b c with ⟨hg, hy, hz⟩ | ⟨v, -, hf⟩
  · obtain ⟨n, rfl, hn1, hn8, hr⟩ := good_nat hg
    obtain ⟨t, rfl⟩ : ∃ t : Nat, y = t := ⟨y.toNat, by omega⟩
    obtain ⟨s, rfl⟩ : ∃ s : Nat, z = s := ⟨z.toNat, by omega⟩
    have ht : t < n := by omega
    have hs : s < n := by omega
    have hn8' : (n : Int) ≤ 8 := by omega
    have HG := Lib.hid hg
    have HR := Lib.hid hr
    have hback := ways_back (cost_m hr) ht hs (far_end hr ht) (far_end hr hs)
    have hself := ways_self ht (far_end hr ht)
    have HREC := Lib.hid (fun h => ways_rec (cost_m hr) (far_end hr ht) (a := s) hs h)
    have HWB := Lib.hid (fun k => ways_bound (t := t) (K := costF m a b c) (D := endF t a b c m) hn8 k)
    have HFR := Lib.hid (end_ranged (t := t) hr)
    have HCM := Lib.hid (cost_m hr)
    clear hg hr hy hz
    obtain ⟨W, hW⟩ : ∃ W, waysF n t (costF m a b c) (endF t a b c m) = W := ⟨_, rfl⟩
    have HWE := Lib.hid hW
    have hcall := count_ok n s t n s t rfl rfl rfl A m cp a b c w1 (HL.out.keep HB1.out) hm HG.out hs ht
    rw [hW] at hcall hback hself HREC HWB
    have HBK := Lib.hid hback
    have HSELF := Lib.hid hself
    clear hback hself hW
    refine hcall.mono ?_
    clear hcall
    rintro e w2 ⟨rfl, hb2⟩
    have HB2 := Lib.hid (keep HB1.out hb2)
    clear hb2 HB1
    go_wp2_with fail
    have hcall := count_ok n t s n t s rfl rfl rfl A m cp a b c w2 (HL.out.keep HB2.out) hm HG.out ht hs
    rw [← HBK.out] at hcall
    refine hcall.mono ?_
    clear hcall
    rintro e w3 ⟨rfl, hb3⟩
    have HB3 := Lib.hid (keep HB2.out hb3)
    clear hb3 HB2
    go_wp2_with fail
    have hcall := spfFar_ok n t n t rfl rfl A m cp a b c w3 (HL.out.keep HB3.out) hm HG.out ht
    refine hcall.mono ?_
    clear hcall
    rintro e w4 ⟨g, rfl, -, hrow, hb4⟩
    have HX := Lib.hid hrow
    have HB4 := Lib.hid (keep HB3.out hb4)
    clear hrow hb4 HB3
    have hWs := HWB.out s
    obtain ⟨k0, hk0⟩ : ∃ k0, W s = k0 := ⟨_, rfl⟩
    have HK0 := Lib.hid hk0
    rw [hk0] at hWs ⊢
    clear hk0
    by_cases hst : s = t
    · have e1 : ((s : Int) == (t : Int)) = true := by simp [hst]
      have e2 : (s == t) = true := by simp [hst]
      have ek : k0 = 1 := by rw [← HK0.out, hst]; exact HSELF.out
      subst ek
      clear hst
      go_wp2_with fail
      go_ret
      exact ⟨rfl, HB4.out⟩
    · have e1 : ((s : Int) == (t : Int)) = false := beq_false_of_ne (by omega)
      have e2 : (s == t) = false := beq_false_of_ne hst
      have hrec := HREC.out hst
      rw [HK0.out] at hrec
      have HRC := Lib.hid hrec
      have HST := Lib.hid hst
      clear hrec hst
      go_wp2_with fail
      go_loopw [16, 17] (fun u q wr => ∃ i : Nat, i ≤ n ∧ u = .int .i64 (sumB (upB t (costF m a b c) (endF t a b c m) s) W i) ∧ q = .int .i64 i ∧ Below w4.heap.size w4 wr) (fun _ q _ => n - (intOf q).toNat)
      case atStart => exact ⟨0, by omega, rfl, rfl, Below.refl _ _⟩
      case round =>
        obtain ⟨i, hi, rfl, rfl, hb⟩ := hrel
        have HB := Lib.hid hb
        have hbs := sumB_bound (p := upB t (costF m a b c) (endF t a b c m) s) (W := W) (B := 281474976710656) (by omega) i (fun k _ _ => HWB.out k)
        clear hb
        obtain ⟨S, hS⟩ : ∃ S, sumB (upB t (costF m a b c) (endF t a b c m) s) W i = S := ⟨_, rfl⟩
        have HS := Lib.hid hS
        rw [hS] at hbs ⊢
        clear hS
        by_cases hlt : i < n
        · have hlt' : (i : Int) < n := by omega
          obtain ⟨cc, hcc⟩ : ∃ cc, costF m a b c i s = cc := ⟨_, rfl⟩
          have hsi : costF m a b c s i = cc := (HCM.out.back s i hs hlt).trans hcc
          have HCC : Hid (costV m a b c s i = cc) := hsi
          have hc0 := HCM.out.nonneg hlt hs
          have hc1 := HCM.out.high i s hlt hs
          rw [hcc] at hc0 hc1
          have HUP : Hid (upB t (costF m a b c) (endF t a b c m) s i = decide (s ≠ t ∧ i ≠ s ∧ endF t a b c m s < 16 ∧ endF t a b c m i + cc = endF t a b c m s)) := by rw [← hcc]; rfl
          have ci := (HX.out.below HB.out HX.out.lt).cell hlt
          have cs := (HX.out.below HB.out HX.out.lt).cell hs
          obtain ⟨hi0, hi1⟩ := HFR.out i hlt
          obtain ⟨hs0, hs1⟩ := HFR.out s hs
          obtain ⟨di, hdi⟩ : ∃ d, endF t a b c m i = d := ⟨_, rfl⟩
          obtain ⟨ds, hds⟩ : ∃ d, endF t a b c m s = d := ⟨_, rfl⟩
          rw [hdi] at ci hi0 hi1 HUP
          rw [hds] at cs hs0 hs1 HUP
          have hw : IntKind.i64.wrap (di + cc) = di + cc := IntWalk.i64_in _ (by omega)
          have hsum : sumB (upB t (costF m a b c) (endF t a b c m) s) W (i + 1) = S + if upB t (costF m a b c) (endF t a b c m) s i = true then W i else 0 := by
            show sumB (upB t (costF m a b c) (endF t a b c m) s) W i + _ = _
            rw [HS.out]
          have HSUM := Lib.hid hsum
          clear hcc hsi hdi hds hsum
          by_cases hup : i ≠ s ∧ ds < 16 ∧ di + cc = ds
          · obtain ⟨h1, h2, h3⟩ := hup
            have HU : Hid (upB t (costF m a b c) (endF t a b c m) s i = true) := Lib.hid (HUP.out.trans (decide_eq_true ⟨HST.out, h1, h2, h3⟩))
            have f1 : ((i : Int) != (s : Int)) = true := bne_iff_ne.2 (by omega)
            have f2 : (i != s) = true := bne_iff_ne.2 h1
            have f3 : decide (cc < 16) = true := decide_eq_true (by omega)
            have f4 : decide (ds < 16) = true := decide_eq_true h2
            have f5 : (di + cc == ds) = true := by simp [h3]
            have hWi := HWB.out i
            obtain ⟨Wi, hWie⟩ : ∃ v, W i = v := ⟨_, rfl⟩
            have HWI := Lib.hid hWie
            rw [hWie] at hWi
            clear hWie h1
            go_wp2_with fail
            have hcall := costOf_walk A m cp a b c s i wr (HL.out.keep (keep HB4.out HB.out)) hm cc HCC.out
            refine hcall.mono ?_
            clear hcall
            rintro e w5 ⟨rfl, h5⟩
            subst w5
            go_wp2_with fail
            go_quiet (fail)
            go_wp2_with fail
            have hcall := count_ok n i t n i t rfl rfl rfl A m cp a b c (wr.drewN nq) ((HL.out.keep (keep HB4.out HB.out)).drewN nq) hm HG.out hlt ht
            rw [HWE.out, HWI.out] at hcall
            refine hcall.mono ?_
            clear hcall
            rintro e w6 ⟨rfl, hb6⟩
            have HB6 := Lib.hid (keep (below_drewN HB.out nq) hb6)
            clear hb6
            go_wp2_with fail
            go_roundw
            case rel => exact ⟨i + 1, by omega, by rw [HSUM.out, HU.out, if_pos rfl, HWI.out], by go_num, HB6.out⟩
            case measure => simp [intOf]; omega
          · have HU : Hid (upB t (costF m a b c) (endF t a b c m) s i = false) := Lib.hid (HUP.out.trans (decide_eq_false fun h => hup h.2))
            have HSM : Hid (sumB (upB t (costF m a b c) (endF t a b c m) s) W (i + 1) = S) := by
              rw [HSUM.out, HU.out]
              exact Lib.hid (by simp)
            by_cases his : i = s
            · have f1 : ((i : Int) != (s : Int)) = false := by simp [his]
              have f2 : (i != s) = false := by simp [his]
              clear his hup
              go_wp2_with fail
              have hcall := costOf_walk A m cp a b c s i wr (HL.out.keep (keep HB4.out HB.out)) hm cc HCC.out
              refine hcall.mono ?_
              clear hcall
              rintro e w5 ⟨rfl, h5⟩
              subst w5
              go_wp2_with fail
              go_quiet (fail)
              go_wp2_with fail
              go_roundw
              case rel => exact ⟨i + 1, by omega, by rw [HSM.out], by go_num, below_drewN HB.out _⟩
              case measure => simp [intOf]; omega
            · have f1 : ((i : Int) != (s : Int)) = true := bne_iff_ne.2 (by omega)
              have f2 : (i != s) = true := bne_iff_ne.2 his
              by_cases h16 : cc < 16
              · have f3 : decide (cc < 16) = true := decide_eq_true h16
                by_cases hd16 : ds < 16
                · have f4 : decide (ds < 16) = true := decide_eq_true hd16
                  have hne : ¬ di + cc = ds := fun e => hup ⟨his, hd16, e⟩
                  have f5 : (di + cc == ds) = false := beq_false_of_ne hne
                  clear hup his
                  go_wp2_with fail
                  have hcall := costOf_walk A m cp a b c s i wr (HL.out.keep (keep HB4.out HB.out)) hm cc HCC.out
                  refine hcall.mono ?_
                  clear hcall
                  rintro e w5 ⟨rfl, h5⟩
                  subst w5
                  go_wp2_with fail
                  go_quiet (fail)
                  go_wp2_with fail
                  go_roundw
                  case rel => exact ⟨i + 1, by omega, by rw [HSM.out], by go_num, below_drewN HB.out _⟩
                  case measure => simp [intOf]; omega
                · have f4 : decide (ds < 16) = false := decide_eq_false hd16
                  clear hup his
                  go_wp2_with fail
                  have hcall := costOf_walk A m cp a b c s i wr (HL.out.keep (keep HB4.out HB.out)) hm cc HCC.out
                  refine hcall.mono ?_
                  clear hcall
                  rintro e w5 ⟨rfl, h5⟩
                  subst w5
                  go_wp2_with fail
                  go_quiet (fail)
                  go_wp2_with fail
                  go_roundw
                  case rel => exact ⟨i + 1, by omega, by rw [HSM.out], by go_num, below_drewN HB.out _⟩
                  case measure => simp [intOf]; omega
              · have f3 : decide (cc < 16) = false := decide_eq_false h16
                clear hup his
                go_wp2_with fail
                have hcall := costOf_walk A m cp a b c s i wr (HL.out.keep (keep HB4.out HB.out)) hm cc HCC.out
                refine hcall.mono ?_
                clear hcall
                rintro e w5 ⟨rfl, h5⟩
                subst w5
                go_wp2_with fail
                go_quiet (fail)
                go_wp2_with fail
                go_roundw
                case rel => exact ⟨i + 1, by omega, by rw [HSM.out], by go_num, below_drewN HB.out _⟩
                case measure => simp [intOf]; omega
        · have ein : i = n := by omega
          subst ein
          have eS : S = k0 := HS.out.symm.trans HRC.out.symm
          subst eS
          go_wp2_with fail
          go_ret
          exact ⟨rfl, keep HB4.out HB.out⟩
  · have hcall := count_bad x z y A m cp a b c w1 (HL.out.keep HB1.out) hm v hf
    refine hcall.mono ?_
    clear hcall
    rintro e w2 ⟨rfl, hb2⟩
    have HB2 := Lib.hid (keep HB1.out hb2)
    clear hb2 HB1 hf
    go_wp2_with fail
    go_ret
    exact ⟨rfl, HB2.out⟩

end Go.Proofs.Ytlbdbfmgkappaaa

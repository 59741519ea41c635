/- LfiTells: the walk. Printed by gen_lfitells.py. -/
import Derived.Test.YtminfghiejgieaaDoorLfiQM
import Derived.Test.YtminfghiejgieaaDoorInts
import Derived.Test.YtminfghiejgieaaDoorErr
namespace Go.Proofs.YtminfghiejgieaaDoor
open Go.RowKit
set_option linter.unusedVariables false

theorem below_setRow0 {B g : Nat} {w0 w : World} (hb : Below B w0 w) (hg : B ≤ g) (cs : Array Value) : Hid (Below B w0 (w.setRow g cs)) :=
  ⟨hb.os, hb.tape, hb.output, by rw [setRow_size]; exact hb.size, fun k hk => (setRow_other _ _ _ _ (by omega)).trans (hb.block k hk)⟩

set_option maxRecDepth 100000 in
set_option maxHeartbeats 32000000 in
theorem lfiTells_walk (x : Int) (A : Option Addr) (m cp : Nat) (a b c : Nat → Int) (y : Int) (A1 : Option Addr) (n1 c1 : Nat) (g1 : Nat → Int) (A2 : Option Addr) (n2 c2 : Nat) (g2 : Nat → Int) (A3 : Option Addr) (n3 c3 : Nat) (g3 : Nat → Int) (A4 : Option Addr) (n4 c4 : Nat) (g4 : Nat → Int) (w : World) (hgg : ErrT w) (hl : Lnk w A m a b c) (hm : m ≤ 9223372036854775807) (hv1 : Vec w A1 n1 g1) (hn1m : n1 ≤ 9223372036854775807) (hv2 : Vec w A2 n2 g2) (hn2m : n2 ≤ 9223372036854775807) (hv3 : Vec w A3 n3 g3) (hn3m : n3 ≤ 9223372036854775807) (hv4 : Vec w A4 n4 g4) (hn4m : n4 ≤ 9223372036854775807) :
    Calls Tryd.prog 4 #[.int .i64 x, .slice A m cp, .int .i64 y, .slice A1 n1 c1, .slice A2 n2 c2, .slice A3 n3 c3, .slice A4 n4 c4] w fun e w' => e = .returned (.bool true) ∧ Below w.heap.size w w' := by
  have HL := Lib.hid hl
  have HV1 := Lib.hid hv1
  have HV2 := Lib.hid hv2
  have HV3 := Lib.hid hv3
  have HV4 := Lib.hid hv4
  have HET := Lib.hid hgg
  clear hl hv1 hv2 hv3 hv4 hgg
  go_enter Tryd.func4, Tryd.ntmps4
  go_wp2_with fail
  refine (free_walk w).mono ?_
  rintro e w1 ⟨rfl, hb1⟩
  have HB1 := Lib.hid hb1
  clear hb1
  go_wp2_with fail
  rcases bellRun_bad_aux x y m a b c with ⟨hg, h0, h1⟩ | ⟨v, hv, hf⟩
  · obtain ⟨n, rfl, hn1, hn8, hr⟩ := good_nat hg
    obtain ⟨t, rfl⟩ : ∃ t : Nat, y = t := ⟨y.toNat, by omega⟩
    have ht : t < n := by omega
    have hn8' : (n : Int) ≤ 8 := by omega
    have hd3 : decide ((t : Int) < 0) = false := decide_eq_false (by omega)
    have hd4 : decide (n ≤ t) = false := decide_eq_false (by omega)
    have HG := Lib.hid hg
    have HR := Lib.hid hr
    clear hg hr h0 h1
    have hcall := lfiNew_ok n n rfl A m cp t t rfl a b c w1 (HL.out.keep HB1.out) hm HG.out ht
    refine hcall.mono ?_
    clear hcall
    rintro e w2 ⟨lab, Ad, rfl, hA, hlow, hb2⟩
    have HA := Lib.hid hA
    have HLO : Hid (∀ b, b < w.heap.size → lab b = []) := fun b hb => hlow b (Nat.lt_of_lt_of_le hb HB1.out.size)
    have HB2 := Lib.hid (keep HB1.out hb2)
    clear hA hlow hb2 HB1
    go_wp2_with fail
    refine (graphFault_good n A m cp a b c w2 (HL.out.keep HB2.out) hm HG.out).mono ?_
    rintro e w3 ⟨rfl, hb3⟩
    have HA3 := Lib.hid (HA.out.below hb3)
    have HB3 := Lib.hid (keep HB2.out hb3)
    clear hb3 HA HB2
    go_wp2_with fail
    refine (err_nil 0 true ⟨fun _ => rfl, fun _ => rfl⟩ w3).mono ?_
    rintro e w4 ⟨rfl, hb4⟩
    have HA4 := Lib.hid (HA3.out.below hb4)
    have HB4 := Lib.hid (keep HB3.out hb4)
    clear hb4 HA3 HB3
    go_wp2_with fail
    refine (qNew n t A m cp a b c w4 (HL.out.keep HB4.out) hm hn1 hn8 ht).mono ?_
    rintro e w5 ⟨v5, rfl, hv5, hb5⟩
    have hA5 := HA4.out.below hb5
    have hB5 := keep HB4.out hb5
    have hfree := HA4.out.free
    have hsz := hb5.size
    have HI0 : Hid (LInv n t (LS.new t (costF m a b c))) := LInv.new (cost_m HR.out)
    have hvv := hv5
    obtain ⟨AC, cC, AW, cW, AH, cH, AG, cF, AL, cL, rfl, -⟩ := hvv
    have hpm : Blk (w5.alloc (.cells #[.int .i64 t, .slice (some AC) n cC, .slice AW 0 cW, .slice (some AH) n cH, .slice (some AG) n cF, .slice (some AL) n cL] 37)) w5.heap.size 37 _ := Blk.new _ _ _
    have hb6 : Below w5.heap.size w5 (w5.alloc (.cells #[.int .i64 t, .slice (some AC) n cC, .slice AW 0 cW, .slice (some AH) n cH, .slice (some AG) n cF, .slice (some AL) n cL] 37)) := (Below.refl _ _).alloc (Nat.le_refl _) _
    have hq6 : QL (w5.alloc (.cells #[.int .i64 t, .slice (some AC) n cC, .slice AW 0 cW, .slice (some AH) n cH, .slice (some AG) n cF, .slice (some AL) n cL] 37)) lab Ad w5.heap.size _ n t (LS.new t (costF m a b c)) (costF m a b c) (fun _ _ => 16) (startF t) (startF t) [] :=
      ⟨hA5.below hb6, HI0.out, hpm, hA5.free _ (Nat.le_refl _), hv5.same (fun b _ hlt => hb6.block b hlt) hb6.size fun b hb hlt => ⟨hfree b hb, by omega⟩⟩
    have HQ0 := Lib.hid hq6
    have HB0 := Lib.hid (keep hB5 hb6)
    have hpmw : w.heap.size ≤ w5.heap.size := hB5.size
    obtain ⟨pm, hpme⟩ : ∃ pm, w5.heap.size = pm := ⟨_, rfl⟩
    obtain ⟨p0, hp0⟩ : ∃ p0, Ad.p = p0 := ⟨_, rfl⟩
    have HP0 := Lib.hid hp0
    rw [hpme] at HQ0 hpmw
    have HPM := Lib.hid hpmw
    rw [hp0]
    clear hv5 hb5 hA5 hB5 hfree hsz hpm hb6 hq6 HA4 HB4 hp0 HI0
    go_wp2_with fail
    clear hpme
    go_loopw [21] (fun q wr => ∃ k : Nat, k ≤ n1 ∧ q = .int .i64 k ∧ (∃ lab Ad s K h f e W v, Ad.p = p0 ∧ QL wr lab Ad pm v n t s K h f e W ∧ SynL n s K h f e W ∧ (∀ b, b < w.heap.size → lab b = []) ∧ s.c ≤ k) ∧ Below w.heap.size w wr) (fun q _ => n1 - (intOf q).toNat)
    case atStart => exact ⟨0, by omega, rfl, ⟨lab, Ad, _, _, _, _, _, _, _, HP0.out, HQ0.out, SynL.new, HLO.out, Nat.le_refl _⟩, HB0.out⟩
    case round =>
      obtain ⟨k, hk, rfl, ⟨lab5, A5, s5, K5, h5, f5, e5, WW, v, hp5, hq5, hy5, hlo5, hsc⟩, hb5⟩ := hrel
      have hvv := hq5.qr
      obtain ⟨AC, cC, AW, cW, AH, cH, AG, cF, AL, cL, rfl, -⟩ := hvv
      have HQ := Lib.hid hq5
      have HY5 := Lib.hid hy5
      have HLO5 := Lib.hid hlo5
      have HB := Lib.hid hb5
      have HP5 := Lib.hid hp5
      have HI5 := Lib.hid hq5.inv
      clear hp5 hq5 hy5 hlo5 hb5 HQ0 HB0 HLO HP0
      obtain ⟨wo, hwo⟩ : ∃ wo : World, wo = wr := ⟨_, rfl⟩
      rw [← hwo] at HQ HB ⊢
      clear hwo
      by_cases hin : k < n1 ∧ k < n2 ∧ k < n3 ∧ k < n4
      · obtain ⟨hi1, hi2, hi3, hi4⟩ := hin
        have hcm : s5.c < maxLen := by unfold maxLen; omega
        have hi1' : (k : Int) < n1 := by omega
        have hi2' : (k : Int) < n2 := by omega
        have hi3' : (k : Int) < n3 := by omega
        have hi4' : (k : Int) < n4 := by omega
        obtain ⟨ad1, rfl, -, ca1⟩ := HV1.out.keep HB.out k hi1
        obtain ⟨ad2, rfl, -, ca2⟩ := HV2.out.keep HB.out k hi2
        obtain ⟨ad3, rfl, -, ca3⟩ := HV3.out.keep HB.out k hi3
        obtain ⟨ad4, rfl, -, -⟩ := HV4.out.keep HB.out k hi4
        obtain ⟨ov, hov⟩ : ∃ ov, g1 k = ov := ⟨_, rfl⟩
        obtain ⟨av, hav⟩ : ∃ av, g2 k = av := ⟨_, rfl⟩
        obtain ⟨bv, hbv⟩ : ∃ bv, g3 k = bv := ⟨_, rfl⟩
        obtain ⟨cv, hcv⟩ : ∃ cv, g4 k = cv := ⟨_, rfl⟩
        rw [hov] at ca1
        rw [hav] at ca2
        rw [hbv] at ca3
        have HCC : Hid (∀ w', Below w.heap.size w w' → w'.cell? (ad4.add k) = some (.int .i64 cv)) := fun w' hb => by
          obtain ⟨ad', e', -, hc⟩ := HV4.out.keep hb k hi4
          simp only [Option.some.injEq] at e'
          subst e'
          rw [← hcv]
          exact hc
        clear hov hav hbv hcv
        have HSC0 := Lib.hid hsc
        have HLEN := Lib.hid (HY5.out.len HI5.out hn8)
        have k0 : World.cell? _ ⟨pm, 0, none⟩ = some (.int .i64 t) := HQ.out.blk.cell 0
        have k1 : World.cell? _ ⟨pm, 1, none⟩ = some (.slice (some AC) n cC) := HQ.out.blk.cell 1
        have k2 : World.cell? _ ⟨pm, 2, none⟩ = some (.slice AW WW.length cW) := HQ.out.blk.cell 2
        have k3 : World.cell? _ ⟨pm, 3, none⟩ = some (.slice (some AH) n cH) := HQ.out.blk.cell 3
        have k4 : World.cell? _ ⟨pm, 4, none⟩ = some (.slice (some AG) n cF) := HQ.out.blk.cell 4
        have k5 : World.cell? _ ⟨pm, 5, none⟩ = some (.slice (some AL) n cL) := HQ.out.blk.cell 5
        by_cases ho0 : ov = 0
        · subst ho0
          clear hsc
          obtain ⟨te, hte⟩ : ∃ te, s5.sendE n av bv = te := ⟨_, rfl⟩
          have HTE := Lib.hid hte
          by_cases ht0 : te = 0
          · subst ht0
            obtain ⟨x, y, rfl, rfl, hx, hy, hne, hk16⟩ := near_zero (lsend_zero hte).1
            have hs6 : s5.send n x y = s5.put x y := by
              unfold LS.send
              rw [hte, if_pos rfl, show ((x : Int)).toNat = x by omega, show ((y : Int)).toNat = y by omega]
            obtain ⟨s6, hs6'⟩ : ∃ s6, s5.send n x y = s6 := ⟨_, rfl⟩
            rw [hs6'] at hs6
            have HS6 := Lib.hid hs6'
            have HI6 : Hid (LInv n t s6) := by
              rw [← hs6']
              exact Lib.hid (HI5.out.send x y)
            have HSC : Hid (s6.c ≤ k + 1) := by
              rw [← hs6']
              exact Lib.hid (Nat.le_trans (sendQ_c _ _ _ _) (Nat.succ_le_succ HSC0.out))
            have hyc := HY5.out.put hx hy
            rw [← hs6] at hyc
            obtain ⟨WB, hWB⟩ : ∃ WB, WW ++ [(x, y, f5 x)] = WB := ⟨_, rfl⟩
            rw [hWB] at hyc
            have HWB := Lib.hid hWB
            have HY6 := Lib.hid hyc
            clear hs6 hs6' hyc hWB hte hne hk16
            as_aux_lemma =>
              go_wp2_with fail
              refine (qSend (fun b => lab5 b = [] ∧ b ≠ pm) _ n t K5 h5 f5 e5 WW x y wo HQ.out.qr hn8 (by have := HY5.out.len HI5.out hn8; omega)).mono ?_
              rintro e w11 ⟨rfl, hb11⟩
              have HQ11 := Lib.hid (HQ.out.below hb11)
              have HB11 := Lib.hid (keep HB.out hb11)
              have HC11 := Lib.hid hb11
              clear hb11 HQ HB k0 k1 k2 k3 k4 k5
              have k0 : World.cell? _ ⟨pm, 0, none⟩ = some (.int .i64 t) := HQ11.out.blk.cell 0
              have k1 : World.cell? _ ⟨pm, 1, none⟩ = some (.slice (some AC) n cC) := HQ11.out.blk.cell 1
              have k2 : World.cell? _ ⟨pm, 2, none⟩ = some (.slice AW WW.length cW) := HQ11.out.blk.cell 2
              have k3 : World.cell? _ ⟨pm, 3, none⟩ = some (.slice (some AH) n cH) := HQ11.out.blk.cell 3
              have k4 : World.cell? _ ⟨pm, 4, none⟩ = some (.slice (some AG) n cF) := HQ11.out.blk.cell 4
              have k5 : World.cell? _ ⟨pm, 5, none⟩ = some (.slice (some AL) n cL) := HQ11.out.blk.cell 5
              rw [HY5.out.sendE, HTE.out]
              go_wp2_with fail
              have hcall := lfiSend lab5 A5 n t s5 x y w11 HQ11.out.an hn8 hcm
              rw [HP5.out, HTE.out, HS6.out] at hcall
              rw [errV_zero] at hcall
              refine hcall.mono ?_
              clear hcall
              rintro e w12 ⟨rfl, lab12, A12, hp12, hA12, hF12⟩
              have HQ12 := Lib.hid (HQ11.out.turn hA12 HI6.out hF12)
              have HBL12 := Lib.hid (hF12.below HB11.out.size HLO5.out)
              have HB12 := Lib.hid (HB11.out.trans HBL12.out.1)
              have HLO12 := Lib.hid HBL12.out.2
              have HP12 := Lib.hid hp12
              clear hA12 hF12 HQ11 HB11 HBL12 k0 k1 k2 k3 k4 k5 hp12
              have k0 : World.cell? _ ⟨pm, 0, none⟩ = some (.int .i64 t) := HQ12.out.blk.cell 0
              have k1 : World.cell? _ ⟨pm, 1, none⟩ = some (.slice (some AC) n cC) := HQ12.out.blk.cell 1
              have k2 : World.cell? _ ⟨pm, 2, none⟩ = some (.slice AW WW.length cW) := HQ12.out.blk.cell 2
              have k3 : World.cell? _ ⟨pm, 3, none⟩ = some (.slice (some AH) n cH) := HQ12.out.blk.cell 3
              have k4 : World.cell? _ ⟨pm, 4, none⟩ = some (.slice (some AG) n cF) := HQ12.out.blk.cell 4
              have k5 : World.cell? _ ⟨pm, 5, none⟩ = some (.slice (some AL) n cL) := HQ12.out.blk.cell 5
              go_wp2_with fail
              refine (err_nil 0 true ⟨fun _ => rfl, fun _ => rfl⟩ w12).mono ?_
              rintro e w13 ⟨rfl, hb13⟩
              have HQ13 := Lib.hid (HQ12.out.below hb13)
              have HB13 := Lib.hid (keep HB12.out hb13)
              have HC13 := Lib.hid hb13
              clear hb13 HQ12 HB12 k0 k1 k2 k3 k4 k5
              have k0 : World.cell? _ ⟨pm, 0, none⟩ = some (.int .i64 t) := HQ13.out.blk.cell 0
              have k1 : World.cell? _ ⟨pm, 1, none⟩ = some (.slice (some AC) n cC) := HQ13.out.blk.cell 1
              have k2 : World.cell? _ ⟨pm, 2, none⟩ = some (.slice AW WW.length cW) := HQ13.out.blk.cell 2
              have k3 : World.cell? _ ⟨pm, 3, none⟩ = some (.slice (some AH) n cH) := HQ13.out.blk.cell 3
              have k4 : World.cell? _ ⟨pm, 4, none⟩ = some (.slice (some AG) n cF) := HQ13.out.blk.cell 4
              have k5 : World.cell? _ ⟨pm, 5, none⟩ = some (.slice (some AL) n cL) := HQ13.out.blk.cell 5
              go_wp2_with fail
              refine (qSending (fun b => lab12 b = [] ∧ b ≠ pm) _ n t K5 h5 f5 e5 WW x y w13 HQ13.out.qr hn1 hn8 (by have := HY5.out.len HI5.out hn8; omega) hx).mono ?_
              rintro e w14 ⟨v14, rfl, hv14, hb14⟩
              have HL14 := Lib.hid (HQ13.out.an.free)
              have HPL14 := Lib.hid (HQ13.out.blk.lt)
              have HQ14 := Lib.hid (HQ13.out.below hb14)
              have HB14 := Lib.hid (keep HB13.out hb14)
              have HC14 := Lib.hid hb14
              clear hb14 HQ13 HB13
              try clear k0 k1 k2 k3 k4 k5
              have k0 : World.cell? _ ⟨pm, 0, none⟩ = some (.int .i64 t) := HQ14.out.blk.cell 0
              have k1 : World.cell? _ ⟨pm, 1, none⟩ = some (.slice (some AC) n cC) := HQ14.out.blk.cell 1
              have k2 : World.cell? _ ⟨pm, 2, none⟩ = some (.slice AW WW.length cW) := HQ14.out.blk.cell 2
              have k3 : World.cell? _ ⟨pm, 3, none⟩ = some (.slice (some AH) n cH) := HQ14.out.blk.cell 3
              have k4 : World.cell? _ ⟨pm, 4, none⟩ = some (.slice (some AG) n cF) := HQ14.out.blk.cell 4
              have k5 : World.cell? _ ⟨pm, 5, none⟩ = some (.slice (some AL) n cL) := HQ14.out.blk.cell 5
              rw [HWB.out] at hv14
              have hvv := hv14
              obtain ⟨ACc, cCc, AWc, cWc, AHc, cHc, AGc, cFc, ALc, cLc, rfl, -⟩ := hvv
              have hq15 := HQ14.out.put hv14 HPL14.out HL14.out
              have HP15 := Lib.hid HQ14.out.blk
              have HB15 : Hid (Below w.heap.size w (World.setRow _ pm _)) := below_setRow0 HB14.out HPM.out #[.int .i64 t, .slice (some ACc) n cCc, .slice AWc WB.length cWc, .slice (some AHc) n cHc, .slice (some AGc) n cFc, .slice (some ALc) n cLc]
              have HQ15 := Lib.hid hq15
              clear hq15 HQ14 HB14
              try clear k0 k1 k2 k3 k4 k5
              have k0 : World.cell? _ ⟨pm, 0, none⟩ = some (.int .i64 t) := HQ15.out.blk.cell 0
              have k1 : World.cell? _ ⟨pm, 1, none⟩ = some (.slice (some ACc) n cCc) := HQ15.out.blk.cell 1
              have k2 : World.cell? _ ⟨pm, 2, none⟩ = some (.slice AWc WB.length cWc) := HQ15.out.blk.cell 2
              have k3 : World.cell? _ ⟨pm, 3, none⟩ = some (.slice (some AHc) n cHc) := HQ15.out.blk.cell 3
              have k4 : World.cell? _ ⟨pm, 4, none⟩ = some (.slice (some AGc) n cFc) := HQ15.out.blk.cell 4
              have k5 : World.cell? _ ⟨pm, 5, none⟩ = some (.slice (some ALc) n cLc) := HQ15.out.blk.cell 5
              go_wp2_with (refine wpList_store_row rfl 37 (.tmp 20) (.tmp 140) rfl pm #[.int .i64 t, .slice (some ACc) n cCc, .slice AWc WB.length cWc, .slice (some AHc) n cHc, .slice (some AGc) n cFc, .slice (some ALc) n cLc] rfl rfl _ _ HP15.out (by kernel_rfl) rfl (by simp [Value.oneCell']) ?_)
              obtain ⟨w16, hw16⟩ : ∃ w', World.setRow w14 pm #[.int .i64 t, .slice (some ACc) n cCc, .slice AWc WB.length cWc, .slice (some AHc) n cHc, .slice (some AGc) n cFc, .slice (some ALc) n cLc] = w' := ⟨_, rfl⟩
              rw [hw16] at HQ15 HB15 k0 k1 k2 k3 k4 k5 ⊢
              clear hw16 HP15
              go_wp2_with fail
              have HQI := HQ15
              have HBI := HB15
              clear HQ15 HB15
              clear k0 k1 k2 k3 k4 k5
              go_loopw [26] (fun q wi => ∃ i : Nat, i ≤ n ∧ q = .int .i64 i ∧ QL wi lab12 A12 pm #[.int .i64 t, .slice (some ACc) n cCc, .slice AWc WB.length cWc, .slice (some AHc) n cHc, .slice (some AGc) n cFc, .slice (some ALc) n cLc] n t s6 K5 h5 f5 e5 WB ∧ Below w.heap.size w wi) (fun q _ => n - (intOf q).toNat)
              case atStart => exact ⟨0, by omega, rfl, HQI.out, HBI.out⟩
              case round =>
                obtain ⟨i, hi, rfl, hqi, hbi⟩ := hrel
                clear HQI HBI
                have HQJ := Lib.hid hqi
                have HBJ := Lib.hid hbi
                clear hqi hbi
                by_cases hin7 : i < n
                · have hin7' : (i : Int) < n := by omega
                  obtain ⟨dd, hdd⟩ : ∃ dd, s6.f i = dd := ⟨_, rfl⟩
                  obtain ⟨de, hde⟩ : ∃ de, s6.e i = de := ⟨_, rfl⟩
                  have hc1 := lfiDist_at HQJ.out.an hn8 i i rfl hin7
                  have hc2 := lfiLeast_at HQJ.out.an hn8 i i rfl hin7
                  have hc3 := lfiNexts lab12 A12 n t s6 i i rfl wr HQJ.out.an hn8 hin7
                  rw [HP12.out] at hc1 hc2 hc3
                  rw [hdd] at hc1
                  rw [hde] at hc2
                  have HD1 := Lib.hid hc1
                  have HD2 := Lib.hid hc2
                  have HD3 := Lib.hid hc3
                  have HDD := Lib.hid hdd
                  have HDE := Lib.hid hde
                  clear hc1 hc2 hc3 hdd hde
                  go_wp2_with fail
                  refine HD1.out.mono ?_
                  rintro e w81 ⟨rfl, h8⟩
                  subst w81
                  clear HD1
                  go_wp2_with fail
                  refine HD2.out.mono ?_
                  rintro e w82 ⟨rfl, h8⟩
                  subst w82
                  clear HD2
                  go_wp2_with fail
                  refine HD3.out.mono ?_
                  rintro e w83 ⟨u83, rfl, ho83, hb83⟩
                  have hnx := HY6.out.nexts_is (t := t) i
                  obtain ⟨ll, hll⟩ : ∃ ll, pickL (nxB n t K5 h5 e5 i) n = ll := ⟨_, rfl⟩
                  have hl8 : ll.length ≤ n := by rw [← hll]; exact pickL_len _ _
                  rw [← hnx, hll] at ho83
                  obtain ⟨Au, cu, rfl, hvu⟩ := ho83.vec
                  have HVU := Lib.hid hvu
                  have HQ83 := Lib.hid (HQJ.out.below hb83)
                  have HB83 := Lib.hid (keep HBJ.out hb83)
                  have HLL := Lib.hid hll
                  clear ho83 hb83 hvu hnx hll HQJ HBJ
                  have k0 : World.cell? _ ⟨pm, 0, none⟩ = some (.int .i64 t) := HQ83.out.blk.cell 0
                  have k1 : World.cell? _ ⟨pm, 1, none⟩ = some (.slice (some ACc) n cCc) := HQ83.out.blk.cell 1
                  have k2 : World.cell? _ ⟨pm, 2, none⟩ = some (.slice AWc WB.length cWc) := HQ83.out.blk.cell 2
                  have k3 : World.cell? _ ⟨pm, 3, none⟩ = some (.slice (some AHc) n cHc) := HQ83.out.blk.cell 3
                  have k4 : World.cell? _ ⟨pm, 4, none⟩ = some (.slice (some AGc) n cFc) := HQ83.out.blk.cell 4
                  have k5 : World.cell? _ ⟨pm, 5, none⟩ = some (.slice (some ALc) n cLc) := HQ83.out.blk.cell 5
                  go_wp2_with fail
                  refine (qNexts (fun b => lab12 b = [] ∧ b ≠ pm) _ n t K5 h5 f5 e5 WB i w83 HQ83.out.qr hn8 hin7).mono ?_
                  rintro e w84 ⟨u84, rfl, ho84, hb84⟩
                  rw [HLL.out] at ho84
                  obtain ⟨Aq, cq, rfl, hvq⟩ := ho84.vec
                  have HVQ := Lib.hid hvq
                  have HVU4 := Lib.hid (HVU.out.keep hb84)
                  have HQ84 := Lib.hid (HQ83.out.below hb84)
                  have HB84 := Lib.hid (keep HB83.out hb84)
                  clear ho84 hb84 hvq HQ83 HB83 HVU k0 k1 k2 k3 k4 k5
                  go_wp2_with fail
                  refine (ints_walk Au Aq ll.length ll.length cu cq (atL ll) (atL ll) w84 HVU4.out HVQ.out (by omega) (by omega) true ⟨fun _ => ⟨rfl, fun _ _ => rfl⟩, fun _ => rfl⟩).mono ?_
                  rintro e w85 ⟨rfl, q85, hw85⟩
                  have hb85 : Below w84.heap.size w84 w85 := by subst hw85; exact below_drewN (Below.refl _ _) q85
                  have HQ85 := Lib.hid (HQ84.out.below hb85)
                  have HB85 := Lib.hid (keep HB84.out hb85)
                  clear hw85 hb85 HQ84 HB84 HVU4 HVQ
                  obtain ⟨c8, c9⟩ := HQ85.out.qr.farAt2 hin7
                  rw [HY6.out.f, HDD.out] at c8
                  rw [HY6.out.e, HDE.out] at c9
                  have k0 : World.cell? _ ⟨pm, 0, none⟩ = some (.int .i64 t) := HQ85.out.blk.cell 0
                  have k1 : World.cell? _ ⟨pm, 1, none⟩ = some (.slice (some ACc) n cCc) := HQ85.out.blk.cell 1
                  have k2 : World.cell? _ ⟨pm, 2, none⟩ = some (.slice AWc WB.length cWc) := HQ85.out.blk.cell 2
                  have k3 : World.cell? _ ⟨pm, 3, none⟩ = some (.slice (some AHc) n cHc) := HQ85.out.blk.cell 3
                  have k4 : World.cell? _ ⟨pm, 4, none⟩ = some (.slice (some AGc) n cFc) := HQ85.out.blk.cell 4
                  have k5 : World.cell? _ ⟨pm, 5, none⟩ = some (.slice (some ALc) n cLc) := HQ85.out.blk.cell 5
                  clear k0 k1 k2 k3
                  go_wp2_with fail
                  go_roundw
                  case rel => exact ⟨i + 1, by omega, by go_num, HQ85.out, HB85.out⟩
                  case measure => simp [intOf]; omega
                · have hid7 : decide ((i : Int) < n) = false := decide_eq_false (by omega)
                  have hid8 : decide (n ≤ i) = true := decide_eq_true (by omega)
                  go_wp2_with fail
                  go_roundw
                  case rel => exact ⟨k + 1, by omega, by go_num, ⟨lab12, A12, s6, K5, h5, f5, e5, WB, _, HP12.out, HQJ.out, HY6.out, HLO12.out, HSC.out⟩, HBJ.out⟩
                  case measure => simp [intOf]; omega
          · have HS6 : Hid (s5.send n av bv = s5) := by
              unfold LS.send
              rw [if_neg (fun hc => ht0 (hte.symm.trans hc))]
              exact Lib.hid rfl
            obtain ⟨s6, hs66⟩ : ∃ s6, s5 = s6 := ⟨_, rfl⟩
            have HI6 : Hid (LInv n t s6) := hs66 ▸ HI5.out
            have HY6 : Hid (SynL n s6 K5 h5 f5 e5 WW) := hs66 ▸ HY5.out
            have HSC : Hid (s6.c ≤ k + 1) := hs66 ▸ Nat.le_succ_of_le HSC0.out
            have HS6' : Hid (s5.send n av bv = s6) := hs66 ▸ HS6.out
            clear HS6 hs66
            have HS6 := HS6'
            clear HS6'
            have htb : (te == 0) = false := beq_false_of_ne ht0
            have HT0 := Lib.hid ht0
            clear hte ht0
            as_aux_lemma =>
              go_wp2_with fail
              refine (qSend (fun b => lab5 b = [] ∧ b ≠ pm) _ n t K5 h5 f5 e5 WW av bv wo HQ.out.qr hn8 (by have := HY5.out.len HI5.out hn8; omega)).mono ?_
              rintro e w17 ⟨rfl, hb17⟩
              have HQ17 := Lib.hid (HQ.out.below hb17)
              have HB17 := Lib.hid (keep HB.out hb17)
              have HC17 := Lib.hid hb17
              clear hb17 HQ HB k0 k1 k2 k3 k4 k5
              have k0 : World.cell? _ ⟨pm, 0, none⟩ = some (.int .i64 t) := HQ17.out.blk.cell 0
              have k1 : World.cell? _ ⟨pm, 1, none⟩ = some (.slice (some AC) n cC) := HQ17.out.blk.cell 1
              have k2 : World.cell? _ ⟨pm, 2, none⟩ = some (.slice AW WW.length cW) := HQ17.out.blk.cell 2
              have k3 : World.cell? _ ⟨pm, 3, none⟩ = some (.slice (some AH) n cH) := HQ17.out.blk.cell 3
              have k4 : World.cell? _ ⟨pm, 4, none⟩ = some (.slice (some AG) n cF) := HQ17.out.blk.cell 4
              have k5 : World.cell? _ ⟨pm, 5, none⟩ = some (.slice (some AL) n cL) := HQ17.out.blk.cell 5
              rw [HY5.out.sendE, HTE.out]
              go_wp2_with fail
              have hcall := lfiSend lab5 A5 n t s5 av bv w17 HQ17.out.an hn8 hcm
              rw [HP5.out, HTE.out, HS6.out] at hcall
              simp only [errV, HT0.out, if_false] at hcall
              refine hcall.mono ?_
              clear hcall
              rintro e w18 ⟨rfl, lab18, A18, hp18, hA18, hF18⟩
              have HQ18 := Lib.hid (HQ17.out.turn hA18 HI6.out hF18)
              have HBL18 := Lib.hid (hF18.below HB17.out.size HLO5.out)
              have HB18 := Lib.hid (HB17.out.trans HBL18.out.1)
              have HLO18 := Lib.hid HBL18.out.2
              have HP18 := Lib.hid hp18
              clear hA18 hF18 HQ17 HB17 HBL18 k0 k1 k2 k3 k4 k5 hp18
              have k0 : World.cell? _ ⟨pm, 0, none⟩ = some (.int .i64 t) := HQ18.out.blk.cell 0
              have k1 : World.cell? _ ⟨pm, 1, none⟩ = some (.slice (some AC) n cC) := HQ18.out.blk.cell 1
              have k2 : World.cell? _ ⟨pm, 2, none⟩ = some (.slice AW WW.length cW) := HQ18.out.blk.cell 2
              have k3 : World.cell? _ ⟨pm, 3, none⟩ = some (.slice (some AH) n cH) := HQ18.out.blk.cell 3
              have k4 : World.cell? _ ⟨pm, 4, none⟩ = some (.slice (some AG) n cF) := HQ18.out.blk.cell 4
              have k5 : World.cell? _ ⟨pm, 5, none⟩ = some (.slice (some AL) n cL) := HQ18.out.blk.cell 5
              go_wp2_with fail
              refine (err_no te te true ⟨fun _ => rfl, fun _ => rfl⟩ w18 (HET.out.keep HB18.out)).mono ?_
              rintro e w19 ⟨rfl, hb19⟩
              have HQ19 := Lib.hid (HQ18.out.below hb19)
              have HB19 := Lib.hid (keep HB18.out hb19)
              have HC19 := Lib.hid hb19
              clear hb19 HQ18 HB18 k0 k1 k2 k3 k4 k5
              have k0 : World.cell? _ ⟨pm, 0, none⟩ = some (.int .i64 t) := HQ19.out.blk.cell 0
              have k1 : World.cell? _ ⟨pm, 1, none⟩ = some (.slice (some AC) n cC) := HQ19.out.blk.cell 1
              have k2 : World.cell? _ ⟨pm, 2, none⟩ = some (.slice AW WW.length cW) := HQ19.out.blk.cell 2
              have k3 : World.cell? _ ⟨pm, 3, none⟩ = some (.slice (some AH) n cH) := HQ19.out.blk.cell 3
              have k4 : World.cell? _ ⟨pm, 4, none⟩ = some (.slice (some AG) n cF) := HQ19.out.blk.cell 4
              have k5 : World.cell? _ ⟨pm, 5, none⟩ = some (.slice (some AL) n cL) := HQ19.out.blk.cell 5
              go_wp2_with fail
              go_wp2_with fail
              have HQI := HQ19
              have HBI := HB19
              clear HQ19 HB19
              clear k0 k1 k2 k3 k4 k5
              go_loopw [26] (fun q wi => ∃ i : Nat, i ≤ n ∧ q = .int .i64 i ∧ QL wi lab18 A18 pm #[.int .i64 t, .slice (some AC) n cC, .slice AW WW.length cW, .slice (some AH) n cH, .slice (some AG) n cF, .slice (some AL) n cL] n t s6 K5 h5 f5 e5 WW ∧ Below w.heap.size w wi) (fun q _ => n - (intOf q).toNat)
              case atStart => exact ⟨0, by omega, rfl, HQI.out, HBI.out⟩
              case round =>
                obtain ⟨i, hi, rfl, hqi, hbi⟩ := hrel
                clear HQI HBI
                have HQJ := Lib.hid hqi
                have HBJ := Lib.hid hbi
                clear hqi hbi
                by_cases hin7 : i < n
                · have hin7' : (i : Int) < n := by omega
                  obtain ⟨dd, hdd⟩ : ∃ dd, s6.f i = dd := ⟨_, rfl⟩
                  obtain ⟨de, hde⟩ : ∃ de, s6.e i = de := ⟨_, rfl⟩
                  have hc1 := lfiDist_at HQJ.out.an hn8 i i rfl hin7
                  have hc2 := lfiLeast_at HQJ.out.an hn8 i i rfl hin7
                  have hc3 := lfiNexts lab18 A18 n t s6 i i rfl wr HQJ.out.an hn8 hin7
                  rw [HP18.out] at hc1 hc2 hc3
                  rw [hdd] at hc1
                  rw [hde] at hc2
                  have HD1 := Lib.hid hc1
                  have HD2 := Lib.hid hc2
                  have HD3 := Lib.hid hc3
                  have HDD := Lib.hid hdd
                  have HDE := Lib.hid hde
                  clear hc1 hc2 hc3 hdd hde
                  go_wp2_with fail
                  refine HD1.out.mono ?_
                  rintro e w81 ⟨rfl, h8⟩
                  subst w81
                  clear HD1
                  go_wp2_with fail
                  refine HD2.out.mono ?_
                  rintro e w82 ⟨rfl, h8⟩
                  subst w82
                  clear HD2
                  go_wp2_with fail
                  refine HD3.out.mono ?_
                  rintro e w83 ⟨u83, rfl, ho83, hb83⟩
                  have hnx := HY6.out.nexts_is (t := t) i
                  obtain ⟨ll, hll⟩ : ∃ ll, pickL (nxB n t K5 h5 e5 i) n = ll := ⟨_, rfl⟩
                  have hl8 : ll.length ≤ n := by rw [← hll]; exact pickL_len _ _
                  rw [← hnx, hll] at ho83
                  obtain ⟨Au, cu, rfl, hvu⟩ := ho83.vec
                  have HVU := Lib.hid hvu
                  have HQ83 := Lib.hid (HQJ.out.below hb83)
                  have HB83 := Lib.hid (keep HBJ.out hb83)
                  have HLL := Lib.hid hll
                  clear ho83 hb83 hvu hnx hll HQJ HBJ
                  have k0 : World.cell? _ ⟨pm, 0, none⟩ = some (.int .i64 t) := HQ83.out.blk.cell 0
                  have k1 : World.cell? _ ⟨pm, 1, none⟩ = some (.slice (some AC) n cC) := HQ83.out.blk.cell 1
                  have k2 : World.cell? _ ⟨pm, 2, none⟩ = some (.slice AW WW.length cW) := HQ83.out.blk.cell 2
                  have k3 : World.cell? _ ⟨pm, 3, none⟩ = some (.slice (some AH) n cH) := HQ83.out.blk.cell 3
                  have k4 : World.cell? _ ⟨pm, 4, none⟩ = some (.slice (some AG) n cF) := HQ83.out.blk.cell 4
                  have k5 : World.cell? _ ⟨pm, 5, none⟩ = some (.slice (some AL) n cL) := HQ83.out.blk.cell 5
                  go_wp2_with fail
                  refine (qNexts (fun b => lab18 b = [] ∧ b ≠ pm) _ n t K5 h5 f5 e5 WW i w83 HQ83.out.qr hn8 hin7).mono ?_
                  rintro e w84 ⟨u84, rfl, ho84, hb84⟩
                  rw [HLL.out] at ho84
                  obtain ⟨Aq, cq, rfl, hvq⟩ := ho84.vec
                  have HVQ := Lib.hid hvq
                  have HVU4 := Lib.hid (HVU.out.keep hb84)
                  have HQ84 := Lib.hid (HQ83.out.below hb84)
                  have HB84 := Lib.hid (keep HB83.out hb84)
                  clear ho84 hb84 hvq HQ83 HB83 HVU k0 k1 k2 k3 k4 k5
                  go_wp2_with fail
                  refine (ints_walk Au Aq ll.length ll.length cu cq (atL ll) (atL ll) w84 HVU4.out HVQ.out (by omega) (by omega) true ⟨fun _ => ⟨rfl, fun _ _ => rfl⟩, fun _ => rfl⟩).mono ?_
                  rintro e w85 ⟨rfl, q85, hw85⟩
                  have hb85 : Below w84.heap.size w84 w85 := by subst hw85; exact below_drewN (Below.refl _ _) q85
                  have HQ85 := Lib.hid (HQ84.out.below hb85)
                  have HB85 := Lib.hid (keep HB84.out hb85)
                  clear hw85 hb85 HQ84 HB84 HVU4 HVQ
                  obtain ⟨c8, c9⟩ := HQ85.out.qr.farAt2 hin7
                  rw [HY6.out.f, HDD.out] at c8
                  rw [HY6.out.e, HDE.out] at c9
                  have k0 : World.cell? _ ⟨pm, 0, none⟩ = some (.int .i64 t) := HQ85.out.blk.cell 0
                  have k1 : World.cell? _ ⟨pm, 1, none⟩ = some (.slice (some AC) n cC) := HQ85.out.blk.cell 1
                  have k2 : World.cell? _ ⟨pm, 2, none⟩ = some (.slice AW WW.length cW) := HQ85.out.blk.cell 2
                  have k3 : World.cell? _ ⟨pm, 3, none⟩ = some (.slice (some AH) n cH) := HQ85.out.blk.cell 3
                  have k4 : World.cell? _ ⟨pm, 4, none⟩ = some (.slice (some AG) n cF) := HQ85.out.blk.cell 4
                  have k5 : World.cell? _ ⟨pm, 5, none⟩ = some (.slice (some AL) n cL) := HQ85.out.blk.cell 5
                  clear k0 k1 k2 k3
                  go_wp2_with fail
                  go_roundw
                  case rel => exact ⟨i + 1, by omega, by go_num, HQ85.out, HB85.out⟩
                  case measure => simp [intOf]; omega
                · have hid7 : decide ((i : Int) < n) = false := decide_eq_false (by omega)
                  have hid8 : decide (n ≤ i) = true := decide_eq_true (by omega)
                  go_wp2_with fail
                  go_roundw
                  case rel => exact ⟨k + 1, by omega, by go_num, ⟨lab18, A18, s6, K5, h5, f5, e5, WW, _, HP18.out, HQJ.out, HY6.out, HLO18.out, HSC.out⟩, HBJ.out⟩
                  case measure => simp [intOf]; omega
        · have ob0 : (ov == 0) = false := beq_false_of_ne ho0
          by_cases ho1 : ov = 1
          · subst ho1
            clear hsc
            obtain ⟨te, hte⟩ : ∃ te, s5.takeE n av bv = te := ⟨_, rfl⟩
            have HTE := Lib.hid hte
            by_cases ht0 : te = 0
            · subst ht0
              obtain ⟨x, y, rfl, rfl, hx, hy, hne, hk16⟩ := near_zero (ltake_zero hte).1
              have hs6 : s5.take n t x y = (s5.come x y).anew n t y := by
                unfold LS.take
                rw [hte, if_pos rfl, show ((x : Int)).toNat = x by omega, show ((y : Int)).toNat = y by omega]
              obtain ⟨s6, hs6'⟩ : ∃ s6, s5.take n t x y = s6 := ⟨_, rfl⟩
              rw [hs6'] at hs6
              have HS6 := Lib.hid hs6'
              have HI6 : Hid (LInv n t s6) := by
                rw [← hs6']
                exact Lib.hid (HI5.out.take x y)
              have HSC : Hid (s6.c ≤ k + 1) := by
                rw [← hs6']
                exact Lib.hid (Nat.le_trans (takeQ_c _ _ _ _ _) (Nat.succ_le_succ HSC0.out))
              have hql := (ltake_zero hte).2
              rw [show ((x : Int)).toNat = x by omega, show ((y : Int)).toNat = y by omega] at hql
              have HIC := Lib.hid (HI5.out.come hx hy hql)
              have HNE : Hid (onWay WW x y ≠ []) := fun h0 => by
                rw [HY5.out.way, h0] at hql
                exact absurd hql (by simp)
              have HNN := Lib.hid (HY5.out.nonneg HI5.out)
              obtain ⟨z, hz⟩ : ∃ z, (onWay WW x y).headD 0 = z := ⟨_, rfl⟩
              have HFV := Lib.hid hz
              have hyc0 := HY5.out.come x y
              rw [hz] at hyc0
              obtain ⟨h6, hh6⟩ : ∃ h6, (fun p q => if p = y ∧ q = x then z else h5 p q) = h6 := ⟨_, rfl⟩
              obtain ⟨WB, hWB⟩ : ∃ WB, dropW x y WW = WB := ⟨_, rfl⟩
              rw [hh6, hWB] at hyc0
              have HHR : Hid (∀ a b, a < n → b < n → 0 ≤ h6 a b ∧ h6 a b ≤ 16) := by
                rw [hyc0.h]
                exact Lib.hid fun _ _ hi hk => HIC.out.hrd0 hi hk
              have HKR : Hid (∀ u v, u < n → v < n → 0 ≤ K5 u v ∧ K5 u v ≤ 16) := by
                rw [HY5.out.K]
                exact Lib.hid fun u v hu hv => ⟨HI5.out.cost.nonneg hu hv, HI5.out.cost.high u v hu hv⟩
              have HLEB := Lib.hid (hyc0.len HIC.out hn8)
              have hyc := hyc0.anew (t := t) y
              rw [← hs6] at hyc
              obtain ⟨f6, hf6⟩ : ∃ f6, (if y = t then f5 else upd f5 y (newQ n t K5 h6 e5 y)) = f6 := ⟨_, rfl⟩
              obtain ⟨e6, he6⟩ : ∃ e6, (if y = t then e5 else upd e5 y (min (e5 y) (newQ n t K5 h6 e5 y))) = e6 := ⟨_, rfl⟩
              rw [hf6, he6] at hyc
              have HH6 := Lib.hid hh6
              have HWB := Lib.hid hWB
              have HF6 := Lib.hid hf6
              have HE6 := Lib.hid he6
              have HY6 := Lib.hid hyc
              clear hs6 hs6' hyc hyc0 hz hh6 hWB hf6 he6 hte hne hk16 hql
              as_aux_lemma =>
                go_wp2_with fail
                refine (qTake (fun b => lab5 b = [] ∧ b ≠ pm) _ n t K5 h5 f5 e5 WW x y wo HQ.out.qr hn8 (by have := HY5.out.len HI5.out hn8; omega)).mono ?_
                rintro e w20 ⟨rfl, hb20⟩
                have HQ20 := Lib.hid (HQ.out.below hb20)
                have HB20 := Lib.hid (keep HB.out hb20)
                have HC20 := Lib.hid hb20
                clear hb20 HQ HB k0 k1 k2 k3 k4 k5
                have k0 : World.cell? _ ⟨pm, 0, none⟩ = some (.int .i64 t) := HQ20.out.blk.cell 0
                have k1 : World.cell? _ ⟨pm, 1, none⟩ = some (.slice (some AC) n cC) := HQ20.out.blk.cell 1
                have k2 : World.cell? _ ⟨pm, 2, none⟩ = some (.slice AW WW.length cW) := HQ20.out.blk.cell 2
                have k3 : World.cell? _ ⟨pm, 3, none⟩ = some (.slice (some AH) n cH) := HQ20.out.blk.cell 3
                have k4 : World.cell? _ ⟨pm, 4, none⟩ = some (.slice (some AG) n cF) := HQ20.out.blk.cell 4
                have k5 : World.cell? _ ⟨pm, 5, none⟩ = some (.slice (some AL) n cL) := HQ20.out.blk.cell 5
                rw [HY5.out.takeE, HTE.out]
                go_wp2_with fail
                have hcall := lfiTake lab5 A5 n t s5 x y w20 HQ20.out.an hn8 HI5.out hcm
                rw [HP5.out, HTE.out, HS6.out] at hcall
                rw [errV_zero] at hcall
                refine hcall.mono ?_
                clear hcall
                rintro e w21 ⟨rfl, A21, hp21, hA21, hF21⟩
                have HQ21 := Lib.hid (HQ20.out.turn hA21 HI6.out hF21)
                have HBL21 := Lib.hid (hF21.below HB20.out.size HLO5.out)
                have HB21 := Lib.hid (HB20.out.trans HBL21.out.1)
                have HLO21 := Lib.hid HBL21.out.2
                have HP21 := Lib.hid hp21
                clear hA21 hF21 HQ20 HB20 HBL21 k0 k1 k2 k3 k4 k5 hp21
                have k0 : World.cell? _ ⟨pm, 0, none⟩ = some (.int .i64 t) := HQ21.out.blk.cell 0
                have k1 : World.cell? _ ⟨pm, 1, none⟩ = some (.slice (some AC) n cC) := HQ21.out.blk.cell 1
                have k2 : World.cell? _ ⟨pm, 2, none⟩ = some (.slice AW WW.length cW) := HQ21.out.blk.cell 2
                have k3 : World.cell? _ ⟨pm, 3, none⟩ = some (.slice (some AH) n cH) := HQ21.out.blk.cell 3
                have k4 : World.cell? _ ⟨pm, 4, none⟩ = some (.slice (some AG) n cF) := HQ21.out.blk.cell 4
                have k5 : World.cell? _ ⟨pm, 5, none⟩ = some (.slice (some AL) n cL) := HQ21.out.blk.cell 5
                go_wp2_with fail
                refine (err_nil 0 true ⟨fun _ => rfl, fun _ => rfl⟩ w21).mono ?_
                rintro e w22 ⟨rfl, hb22⟩
                have HQ22 := Lib.hid (HQ21.out.below hb22)
                have HB22 := Lib.hid (keep HB21.out hb22)
                have HC22 := Lib.hid hb22
                clear hb22 HQ21 HB21 k0 k1 k2 k3 k4 k5
                have k0 : World.cell? _ ⟨pm, 0, none⟩ = some (.int .i64 t) := HQ22.out.blk.cell 0
                have k1 : World.cell? _ ⟨pm, 1, none⟩ = some (.slice (some AC) n cC) := HQ22.out.blk.cell 1
                have k2 : World.cell? _ ⟨pm, 2, none⟩ = some (.slice AW WW.length cW) := HQ22.out.blk.cell 2
                have k3 : World.cell? _ ⟨pm, 3, none⟩ = some (.slice (some AH) n cH) := HQ22.out.blk.cell 3
                have k4 : World.cell? _ ⟨pm, 4, none⟩ = some (.slice (some AG) n cF) := HQ22.out.blk.cell 4
                have k5 : World.cell? _ ⟨pm, 5, none⟩ = some (.slice (some AL) n cL) := HQ22.out.blk.cell 5
                go_wp2_with fail
                refine (qCame (fun b => lab5 b = [] ∧ b ≠ pm) _ n t K5 h5 f5 e5 WW x y w22 HQ22.out.qr hn1 hn8 (by have := HY5.out.len HI5.out hn8; omega) hx hy HNN.out HNE.out).mono ?_
                rintro e w23 ⟨v23, rfl, hv23, hb23⟩
                have HL23 := Lib.hid (HQ22.out.an.free)
                have HPL23 := Lib.hid (HQ22.out.blk.lt)
                have HQ23 := Lib.hid (HQ22.out.below hb23)
                have HB23 := Lib.hid (keep HB22.out hb23)
                have HC23 := Lib.hid hb23
                clear hb23 HQ22 HB22
                try clear k0 k1 k2 k3 k4 k5
                have k0 : World.cell? _ ⟨pm, 0, none⟩ = some (.int .i64 t) := HQ23.out.blk.cell 0
                have k1 : World.cell? _ ⟨pm, 1, none⟩ = some (.slice (some AC) n cC) := HQ23.out.blk.cell 1
                have k2 : World.cell? _ ⟨pm, 2, none⟩ = some (.slice AW WW.length cW) := HQ23.out.blk.cell 2
                have k3 : World.cell? _ ⟨pm, 3, none⟩ = some (.slice (some AH) n cH) := HQ23.out.blk.cell 3
                have k4 : World.cell? _ ⟨pm, 4, none⟩ = some (.slice (some AG) n cF) := HQ23.out.blk.cell 4
                have k5 : World.cell? _ ⟨pm, 5, none⟩ = some (.slice (some AL) n cL) := HQ23.out.blk.cell 5
                rw [HFV.out, HH6.out, HWB.out] at hv23
                rw [HFV.out]
                have hvv := hv23
                obtain ⟨ACb, cCb, AWb, cWb, AHb, cHb, AGb, cFb, ALb, cLb, rfl, -⟩ := hvv
                have ha23 : Below w23.heap.size w23 (w23.alloc (.cells #[.int .i64 t, .slice (some ACb) n cCb, .slice AWb WB.length cWb, .slice (some AHb) n cHb, .slice (some AGb) n cFb, .slice (some ALb) n cLb] 37)) := (Below.refl _ _).alloc (Nat.le_refl _) _
                have HVB := Lib.hid (hv23.below ha23)
                have HQA := Lib.hid (HQ23.out.below ha23)
                have HBA := Lib.hid (keep HB23.out ha23)
                clear ha23 hv23 HQ23 HB23 k0 k1 k2 k3 k4 k5
                have k0 : World.cell? _ ⟨pm, 0, none⟩ = some (.int .i64 t) := HQA.out.blk.cell 0
                have k1 : World.cell? _ ⟨pm, 1, none⟩ = some (.slice (some AC) n cC) := HQA.out.blk.cell 1
                have k2 : World.cell? _ ⟨pm, 2, none⟩ = some (.slice AW WW.length cW) := HQA.out.blk.cell 2
                have k3 : World.cell? _ ⟨pm, 3, none⟩ = some (.slice (some AH) n cH) := HQA.out.blk.cell 3
                have k4 : World.cell? _ ⟨pm, 4, none⟩ = some (.slice (some AG) n cF) := HQA.out.blk.cell 4
                have k5 : World.cell? _ ⟨pm, 5, none⟩ = some (.slice (some AL) n cL) := HQA.out.blk.cell 5
                go_wp2_with fail
                refine (qAnew (fun b => _ ≤ b) _ n t K5 h6 f5 e5 WB y _ HVB.out hn1 hn8 (by have := HLEB.out; omega) hy HKR.out HHR.out).mono ?_
                rintro e w24 ⟨v24, rfl, hv24, hb24⟩
                have HL24 := Lib.hid (HQA.out.an.free)
                have HPL24 := Lib.hid (HQA.out.blk.lt)
                have HQ24 := Lib.hid (HQA.out.below hb24)
                have HB24 := Lib.hid (keep HBA.out hb24)
                have HC24 := Lib.hid hb24
                clear hb24 HQA HBA
                try clear k0 k1 k2 k3 k4 k5
                have k0 : World.cell? _ ⟨pm, 0, none⟩ = some (.int .i64 t) := HQ24.out.blk.cell 0
                have k1 : World.cell? _ ⟨pm, 1, none⟩ = some (.slice (some AC) n cC) := HQ24.out.blk.cell 1
                have k2 : World.cell? _ ⟨pm, 2, none⟩ = some (.slice AW WW.length cW) := HQ24.out.blk.cell 2
                have k3 : World.cell? _ ⟨pm, 3, none⟩ = some (.slice (some AH) n cH) := HQ24.out.blk.cell 3
                have k4 : World.cell? _ ⟨pm, 4, none⟩ = some (.slice (some AG) n cF) := HQ24.out.blk.cell 4
                have k5 : World.cell? _ ⟨pm, 5, none⟩ = some (.slice (some AL) n cL) := HQ24.out.blk.cell 5
                rw [HF6.out, HE6.out] at hv24
                have hvv := hv24
                obtain ⟨ACc, cCc, AWc, cWc, AHc, cHc, AGc, cFc, ALc, cLc, rfl, -⟩ := hvv
                have hq25 := HQ24.out.put hv24 HPL24.out HL24.out
                have HP25 := Lib.hid HQ24.out.blk
                have HB25 : Hid (Below w.heap.size w (World.setRow _ pm _)) := below_setRow0 HB24.out HPM.out #[.int .i64 t, .slice (some ACc) n cCc, .slice AWc WB.length cWc, .slice (some AHc) n cHc, .slice (some AGc) n cFc, .slice (some ALc) n cLc]
                have HQ25 := Lib.hid hq25
                clear hq25 HQ24 HB24
                try clear k0 k1 k2 k3 k4 k5
                have k0 : World.cell? _ ⟨pm, 0, none⟩ = some (.int .i64 t) := HQ25.out.blk.cell 0
                have k1 : World.cell? _ ⟨pm, 1, none⟩ = some (.slice (some ACc) n cCc) := HQ25.out.blk.cell 1
                have k2 : World.cell? _ ⟨pm, 2, none⟩ = some (.slice AWc WB.length cWc) := HQ25.out.blk.cell 2
                have k3 : World.cell? _ ⟨pm, 3, none⟩ = some (.slice (some AHc) n cHc) := HQ25.out.blk.cell 3
                have k4 : World.cell? _ ⟨pm, 4, none⟩ = some (.slice (some AGc) n cFc) := HQ25.out.blk.cell 4
                have k5 : World.cell? _ ⟨pm, 5, none⟩ = some (.slice (some ALc) n cLc) := HQ25.out.blk.cell 5
                go_wp2_with (refine wpList_store_row rfl 37 (.tmp 20) (.tmp 167) rfl pm #[.int .i64 t, .slice (some ACc) n cCc, .slice AWc WB.length cWc, .slice (some AHc) n cHc, .slice (some AGc) n cFc, .slice (some ALc) n cLc] rfl rfl _ _ HP25.out (by kernel_rfl) rfl (by simp [Value.oneCell']) ?_)
                obtain ⟨w26, hw26⟩ : ∃ w', World.setRow w24 pm #[.int .i64 t, .slice (some ACc) n cCc, .slice AWc WB.length cWc, .slice (some AHc) n cHc, .slice (some AGc) n cFc, .slice (some ALc) n cLc] = w' := ⟨_, rfl⟩
                rw [hw26] at HQ25 HB25 k0 k1 k2 k3 k4 k5 ⊢
                clear hw26 HP25
                go_wp2_with fail
                have HQI := HQ25
                have HBI := HB25
                clear HQ25 HB25
                clear k0 k1 k2 k3 k4 k5
                go_loopw [26] (fun q wi => ∃ i : Nat, i ≤ n ∧ q = .int .i64 i ∧ QL wi lab5 A21 pm #[.int .i64 t, .slice (some ACc) n cCc, .slice AWc WB.length cWc, .slice (some AHc) n cHc, .slice (some AGc) n cFc, .slice (some ALc) n cLc] n t s6 K5 h6 f6 e6 WB ∧ Below w.heap.size w wi) (fun q _ => n - (intOf q).toNat)
                case atStart => exact ⟨0, by omega, rfl, HQI.out, HBI.out⟩
                case round =>
                  obtain ⟨i, hi, rfl, hqi, hbi⟩ := hrel
                  clear HQI HBI
                  have HQJ := Lib.hid hqi
                  have HBJ := Lib.hid hbi
                  clear hqi hbi
                  by_cases hin7 : i < n
                  · have hin7' : (i : Int) < n := by omega
                    obtain ⟨dd, hdd⟩ : ∃ dd, s6.f i = dd := ⟨_, rfl⟩
                    obtain ⟨de, hde⟩ : ∃ de, s6.e i = de := ⟨_, rfl⟩
                    have hc1 := lfiDist_at HQJ.out.an hn8 i i rfl hin7
                    have hc2 := lfiLeast_at HQJ.out.an hn8 i i rfl hin7
                    have hc3 := lfiNexts lab5 A21 n t s6 i i rfl wr HQJ.out.an hn8 hin7
                    rw [HP21.out] at hc1 hc2 hc3
                    rw [hdd] at hc1
                    rw [hde] at hc2
                    have HD1 := Lib.hid hc1
                    have HD2 := Lib.hid hc2
                    have HD3 := Lib.hid hc3
                    have HDD := Lib.hid hdd
                    have HDE := Lib.hid hde
                    clear hc1 hc2 hc3 hdd hde
                    go_wp2_with fail
                    refine HD1.out.mono ?_
                    rintro e w81 ⟨rfl, h8⟩
                    subst w81
                    clear HD1
                    go_wp2_with fail
                    refine HD2.out.mono ?_
                    rintro e w82 ⟨rfl, h8⟩
                    subst w82
                    clear HD2
                    go_wp2_with fail
                    refine HD3.out.mono ?_
                    rintro e w83 ⟨u83, rfl, ho83, hb83⟩
                    have hnx := HY6.out.nexts_is (t := t) i
                    obtain ⟨ll, hll⟩ : ∃ ll, pickL (nxB n t K5 h6 e6 i) n = ll := ⟨_, rfl⟩
                    have hl8 : ll.length ≤ n := by rw [← hll]; exact pickL_len _ _
                    rw [← hnx, hll] at ho83
                    obtain ⟨Au, cu, rfl, hvu⟩ := ho83.vec
                    have HVU := Lib.hid hvu
                    have HQ83 := Lib.hid (HQJ.out.below hb83)
                    have HB83 := Lib.hid (keep HBJ.out hb83)
                    have HLL := Lib.hid hll
                    clear ho83 hb83 hvu hnx hll HQJ HBJ
                    have k0 : World.cell? _ ⟨pm, 0, none⟩ = some (.int .i64 t) := HQ83.out.blk.cell 0
                    have k1 : World.cell? _ ⟨pm, 1, none⟩ = some (.slice (some ACc) n cCc) := HQ83.out.blk.cell 1
                    have k2 : World.cell? _ ⟨pm, 2, none⟩ = some (.slice AWc WB.length cWc) := HQ83.out.blk.cell 2
                    have k3 : World.cell? _ ⟨pm, 3, none⟩ = some (.slice (some AHc) n cHc) := HQ83.out.blk.cell 3
                    have k4 : World.cell? _ ⟨pm, 4, none⟩ = some (.slice (some AGc) n cFc) := HQ83.out.blk.cell 4
                    have k5 : World.cell? _ ⟨pm, 5, none⟩ = some (.slice (some ALc) n cLc) := HQ83.out.blk.cell 5
                    go_wp2_with fail
                    refine (qNexts (fun b => lab5 b = [] ∧ b ≠ pm) _ n t K5 h6 f6 e6 WB i w83 HQ83.out.qr hn8 hin7).mono ?_
                    rintro e w84 ⟨u84, rfl, ho84, hb84⟩
                    rw [HLL.out] at ho84
                    obtain ⟨Aq, cq, rfl, hvq⟩ := ho84.vec
                    have HVQ := Lib.hid hvq
                    have HVU4 := Lib.hid (HVU.out.keep hb84)
                    have HQ84 := Lib.hid (HQ83.out.below hb84)
                    have HB84 := Lib.hid (keep HB83.out hb84)
                    clear ho84 hb84 hvq HQ83 HB83 HVU k0 k1 k2 k3 k4 k5
                    go_wp2_with fail
                    refine (ints_walk Au Aq ll.length ll.length cu cq (atL ll) (atL ll) w84 HVU4.out HVQ.out (by omega) (by omega) true ⟨fun _ => ⟨rfl, fun _ _ => rfl⟩, fun _ => rfl⟩).mono ?_
                    rintro e w85 ⟨rfl, q85, hw85⟩
                    have hb85 : Below w84.heap.size w84 w85 := by subst hw85; exact below_drewN (Below.refl _ _) q85
                    have HQ85 := Lib.hid (HQ84.out.below hb85)
                    have HB85 := Lib.hid (keep HB84.out hb85)
                    clear hw85 hb85 HQ84 HB84 HVU4 HVQ
                    obtain ⟨c8, c9⟩ := HQ85.out.qr.farAt2 hin7
                    rw [HY6.out.f, HDD.out] at c8
                    rw [HY6.out.e, HDE.out] at c9
                    have k0 : World.cell? _ ⟨pm, 0, none⟩ = some (.int .i64 t) := HQ85.out.blk.cell 0
                    have k1 : World.cell? _ ⟨pm, 1, none⟩ = some (.slice (some ACc) n cCc) := HQ85.out.blk.cell 1
                    have k2 : World.cell? _ ⟨pm, 2, none⟩ = some (.slice AWc WB.length cWc) := HQ85.out.blk.cell 2
                    have k3 : World.cell? _ ⟨pm, 3, none⟩ = some (.slice (some AHc) n cHc) := HQ85.out.blk.cell 3
                    have k4 : World.cell? _ ⟨pm, 4, none⟩ = some (.slice (some AGc) n cFc) := HQ85.out.blk.cell 4
                    have k5 : World.cell? _ ⟨pm, 5, none⟩ = some (.slice (some ALc) n cLc) := HQ85.out.blk.cell 5
                    clear k0 k1 k2 k3
                    go_wp2_with fail
                    go_roundw
                    case rel => exact ⟨i + 1, by omega, by go_num, HQ85.out, HB85.out⟩
                    case measure => simp [intOf]; omega
                  · have hid7 : decide ((i : Int) < n) = false := decide_eq_false (by omega)
                    have hid8 : decide (n ≤ i) = true := decide_eq_true (by omega)
                    go_wp2_with fail
                    go_roundw
                    case rel => exact ⟨k + 1, by omega, by go_num, ⟨lab5, A21, s6, K5, h6, f6, e6, WB, _, HP21.out, HQJ.out, HY6.out, HLO21.out, HSC.out⟩, HBJ.out⟩
                    case measure => simp [intOf]; omega
            · have HS6 : Hid (s5.take n t av bv = s5) := by
                unfold LS.take
                rw [if_neg (fun hc => ht0 (hte.symm.trans hc))]
                exact Lib.hid rfl
              obtain ⟨s6, hs66⟩ : ∃ s6, s5 = s6 := ⟨_, rfl⟩
              have HI6 : Hid (LInv n t s6) := hs66 ▸ HI5.out
              have HY6 : Hid (SynL n s6 K5 h5 f5 e5 WW) := hs66 ▸ HY5.out
              have HSC : Hid (s6.c ≤ k + 1) := hs66 ▸ Nat.le_succ_of_le HSC0.out
              have HS6' : Hid (s5.take n t av bv = s6) := hs66 ▸ HS6.out
              clear HS6 hs66
              have HS6 := HS6'
              clear HS6'
              have htb : (te == 0) = false := beq_false_of_ne ht0
              have HT0 := Lib.hid ht0
              clear hte ht0
              as_aux_lemma =>
                go_wp2_with fail
                refine (qTake (fun b => lab5 b = [] ∧ b ≠ pm) _ n t K5 h5 f5 e5 WW av bv wo HQ.out.qr hn8 (by have := HY5.out.len HI5.out hn8; omega)).mono ?_
                rintro e w27 ⟨rfl, hb27⟩
                have HQ27 := Lib.hid (HQ.out.below hb27)
                have HB27 := Lib.hid (keep HB.out hb27)
                have HC27 := Lib.hid hb27
                clear hb27 HQ HB k0 k1 k2 k3 k4 k5
                have k0 : World.cell? _ ⟨pm, 0, none⟩ = some (.int .i64 t) := HQ27.out.blk.cell 0
                have k1 : World.cell? _ ⟨pm, 1, none⟩ = some (.slice (some AC) n cC) := HQ27.out.blk.cell 1
                have k2 : World.cell? _ ⟨pm, 2, none⟩ = some (.slice AW WW.length cW) := HQ27.out.blk.cell 2
                have k3 : World.cell? _ ⟨pm, 3, none⟩ = some (.slice (some AH) n cH) := HQ27.out.blk.cell 3
                have k4 : World.cell? _ ⟨pm, 4, none⟩ = some (.slice (some AG) n cF) := HQ27.out.blk.cell 4
                have k5 : World.cell? _ ⟨pm, 5, none⟩ = some (.slice (some AL) n cL) := HQ27.out.blk.cell 5
                rw [HY5.out.takeE, HTE.out]
                go_wp2_with fail
                have hcall := lfiTake lab5 A5 n t s5 av bv w27 HQ27.out.an hn8 HI5.out hcm
                rw [HP5.out, HTE.out, HS6.out] at hcall
                simp only [errV, HT0.out, if_false] at hcall
                refine hcall.mono ?_
                clear hcall
                rintro e w28 ⟨rfl, A28, hp28, hA28, hF28⟩
                have HQ28 := Lib.hid (HQ27.out.turn hA28 HI6.out hF28)
                have HBL28 := Lib.hid (hF28.below HB27.out.size HLO5.out)
                have HB28 := Lib.hid (HB27.out.trans HBL28.out.1)
                have HLO28 := Lib.hid HBL28.out.2
                have HP28 := Lib.hid hp28
                clear hA28 hF28 HQ27 HB27 HBL28 k0 k1 k2 k3 k4 k5 hp28
                have k0 : World.cell? _ ⟨pm, 0, none⟩ = some (.int .i64 t) := HQ28.out.blk.cell 0
                have k1 : World.cell? _ ⟨pm, 1, none⟩ = some (.slice (some AC) n cC) := HQ28.out.blk.cell 1
                have k2 : World.cell? _ ⟨pm, 2, none⟩ = some (.slice AW WW.length cW) := HQ28.out.blk.cell 2
                have k3 : World.cell? _ ⟨pm, 3, none⟩ = some (.slice (some AH) n cH) := HQ28.out.blk.cell 3
                have k4 : World.cell? _ ⟨pm, 4, none⟩ = some (.slice (some AG) n cF) := HQ28.out.blk.cell 4
                have k5 : World.cell? _ ⟨pm, 5, none⟩ = some (.slice (some AL) n cL) := HQ28.out.blk.cell 5
                go_wp2_with fail
                refine (err_no te te true ⟨fun _ => rfl, fun _ => rfl⟩ w28 (HET.out.keep HB28.out)).mono ?_
                rintro e w29 ⟨rfl, hb29⟩
                have HQ29 := Lib.hid (HQ28.out.below hb29)
                have HB29 := Lib.hid (keep HB28.out hb29)
                have HC29 := Lib.hid hb29
                clear hb29 HQ28 HB28 k0 k1 k2 k3 k4 k5
                have k0 : World.cell? _ ⟨pm, 0, none⟩ = some (.int .i64 t) := HQ29.out.blk.cell 0
                have k1 : World.cell? _ ⟨pm, 1, none⟩ = some (.slice (some AC) n cC) := HQ29.out.blk.cell 1
                have k2 : World.cell? _ ⟨pm, 2, none⟩ = some (.slice AW WW.length cW) := HQ29.out.blk.cell 2
                have k3 : World.cell? _ ⟨pm, 3, none⟩ = some (.slice (some AH) n cH) := HQ29.out.blk.cell 3
                have k4 : World.cell? _ ⟨pm, 4, none⟩ = some (.slice (some AG) n cF) := HQ29.out.blk.cell 4
                have k5 : World.cell? _ ⟨pm, 5, none⟩ = some (.slice (some AL) n cL) := HQ29.out.blk.cell 5
                go_wp2_with fail
                go_wp2_with fail
                have HQI := HQ29
                have HBI := HB29
                clear HQ29 HB29
                clear k0 k1 k2 k3 k4 k5
                go_loopw [26] (fun q wi => ∃ i : Nat, i ≤ n ∧ q = .int .i64 i ∧ QL wi lab5 A28 pm #[.int .i64 t, .slice (some AC) n cC, .slice AW WW.length cW, .slice (some AH) n cH, .slice (some AG) n cF, .slice (some AL) n cL] n t s6 K5 h5 f5 e5 WW ∧ Below w.heap.size w wi) (fun q _ => n - (intOf q).toNat)
                case atStart => exact ⟨0, by omega, rfl, HQI.out, HBI.out⟩
                case round =>
                  obtain ⟨i, hi, rfl, hqi, hbi⟩ := hrel
                  clear HQI HBI
                  have HQJ := Lib.hid hqi
                  have HBJ := Lib.hid hbi
                  clear hqi hbi
                  by_cases hin7 : i < n
                  · have hin7' : (i : Int) < n := by omega
                    obtain ⟨dd, hdd⟩ : ∃ dd, s6.f i = dd := ⟨_, rfl⟩
                    obtain ⟨de, hde⟩ : ∃ de, s6.e i = de := ⟨_, rfl⟩
                    have hc1 := lfiDist_at HQJ.out.an hn8 i i rfl hin7
                    have hc2 := lfiLeast_at HQJ.out.an hn8 i i rfl hin7
                    have hc3 := lfiNexts lab5 A28 n t s6 i i rfl wr HQJ.out.an hn8 hin7
                    rw [HP28.out] at hc1 hc2 hc3
                    rw [hdd] at hc1
                    rw [hde] at hc2
                    have HD1 := Lib.hid hc1
                    have HD2 := Lib.hid hc2
                    have HD3 := Lib.hid hc3
                    have HDD := Lib.hid hdd
                    have HDE := Lib.hid hde
                    clear hc1 hc2 hc3 hdd hde
                    go_wp2_with fail
                    refine HD1.out.mono ?_
                    rintro e w81 ⟨rfl, h8⟩
                    subst w81
                    clear HD1
                    go_wp2_with fail
                    refine HD2.out.mono ?_
                    rintro e w82 ⟨rfl, h8⟩
                    subst w82
                    clear HD2
                    go_wp2_with fail
                    refine HD3.out.mono ?_
                    rintro e w83 ⟨u83, rfl, ho83, hb83⟩
                    have hnx := HY6.out.nexts_is (t := t) i
                    obtain ⟨ll, hll⟩ : ∃ ll, pickL (nxB n t K5 h5 e5 i) n = ll := ⟨_, rfl⟩
                    have hl8 : ll.length ≤ n := by rw [← hll]; exact pickL_len _ _
                    rw [← hnx, hll] at ho83
                    obtain ⟨Au, cu, rfl, hvu⟩ := ho83.vec
                    have HVU := Lib.hid hvu
                    have HQ83 := Lib.hid (HQJ.out.below hb83)
                    have HB83 := Lib.hid (keep HBJ.out hb83)
                    have HLL := Lib.hid hll
                    clear ho83 hb83 hvu hnx hll HQJ HBJ
                    have k0 : World.cell? _ ⟨pm, 0, none⟩ = some (.int .i64 t) := HQ83.out.blk.cell 0
                    have k1 : World.cell? _ ⟨pm, 1, none⟩ = some (.slice (some AC) n cC) := HQ83.out.blk.cell 1
                    have k2 : World.cell? _ ⟨pm, 2, none⟩ = some (.slice AW WW.length cW) := HQ83.out.blk.cell 2
                    have k3 : World.cell? _ ⟨pm, 3, none⟩ = some (.slice (some AH) n cH) := HQ83.out.blk.cell 3
                    have k4 : World.cell? _ ⟨pm, 4, none⟩ = some (.slice (some AG) n cF) := HQ83.out.blk.cell 4
                    have k5 : World.cell? _ ⟨pm, 5, none⟩ = some (.slice (some AL) n cL) := HQ83.out.blk.cell 5
                    go_wp2_with fail
                    refine (qNexts (fun b => lab5 b = [] ∧ b ≠ pm) _ n t K5 h5 f5 e5 WW i w83 HQ83.out.qr hn8 hin7).mono ?_
                    rintro e w84 ⟨u84, rfl, ho84, hb84⟩
                    rw [HLL.out] at ho84
                    obtain ⟨Aq, cq, rfl, hvq⟩ := ho84.vec
                    have HVQ := Lib.hid hvq
                    have HVU4 := Lib.hid (HVU.out.keep hb84)
                    have HQ84 := Lib.hid (HQ83.out.below hb84)
                    have HB84 := Lib.hid (keep HB83.out hb84)
                    clear ho84 hb84 hvq HQ83 HB83 HVU k0 k1 k2 k3 k4 k5
                    go_wp2_with fail
                    refine (ints_walk Au Aq ll.length ll.length cu cq (atL ll) (atL ll) w84 HVU4.out HVQ.out (by omega) (by omega) true ⟨fun _ => ⟨rfl, fun _ _ => rfl⟩, fun _ => rfl⟩).mono ?_
                    rintro e w85 ⟨rfl, q85, hw85⟩
                    have hb85 : Below w84.heap.size w84 w85 := by subst hw85; exact below_drewN (Below.refl _ _) q85
                    have HQ85 := Lib.hid (HQ84.out.below hb85)
                    have HB85 := Lib.hid (keep HB84.out hb85)
                    clear hw85 hb85 HQ84 HB84 HVU4 HVQ
                    obtain ⟨c8, c9⟩ := HQ85.out.qr.farAt2 hin7
                    rw [HY6.out.f, HDD.out] at c8
                    rw [HY6.out.e, HDE.out] at c9
                    have k0 : World.cell? _ ⟨pm, 0, none⟩ = some (.int .i64 t) := HQ85.out.blk.cell 0
                    have k1 : World.cell? _ ⟨pm, 1, none⟩ = some (.slice (some AC) n cC) := HQ85.out.blk.cell 1
                    have k2 : World.cell? _ ⟨pm, 2, none⟩ = some (.slice AW WW.length cW) := HQ85.out.blk.cell 2
                    have k3 : World.cell? _ ⟨pm, 3, none⟩ = some (.slice (some AH) n cH) := HQ85.out.blk.cell 3
                    have k4 : World.cell? _ ⟨pm, 4, none⟩ = some (.slice (some AG) n cF) := HQ85.out.blk.cell 4
                    have k5 : World.cell? _ ⟨pm, 5, none⟩ = some (.slice (some AL) n cL) := HQ85.out.blk.cell 5
                    clear k0 k1 k2 k3
                    go_wp2_with fail
                    go_roundw
                    case rel => exact ⟨i + 1, by omega, by go_num, HQ85.out, HB85.out⟩
                    case measure => simp [intOf]; omega
                  · have hid7 : decide ((i : Int) < n) = false := decide_eq_false (by omega)
                    have hid8 : decide (n ≤ i) = true := decide_eq_true (by omega)
                    go_wp2_with fail
                    go_roundw
                    case rel => exact ⟨k + 1, by omega, by go_num, ⟨lab5, A28, s6, K5, h5, f5, e5, WW, _, HP28.out, HQJ.out, HY6.out, HLO28.out, HSC.out⟩, HBJ.out⟩
                    case measure => simp [intOf]; omega
          · have ob1 : (ov == 1) = false := beq_false_of_ne ho1
            clear hsc
            obtain ⟨en, hen⟩ : ∃ en, nearE n K5 av bv = en := ⟨_, rfl⟩
            have HEN := Lib.hid hen
            have hens : nearE n s5.K av bv = en := by rw [← HY5.out.near]; exact hen
            by_cases hn0 : en = 0
            · subst hn0
              obtain ⟨x, y, rfl, rfl, hx, hy, hne, hk16⟩ := near_zero hen
              by_cases hcl : cv < 1
              · have hte : s5.costE n x y cv = 1 := by
                  unfold LS.costE
                  rw [if_pos ⟨hens, by omega⟩]
                have HTE := Lib.hid hte
                have d1 : decide (cv < 1) = true := decide_eq_true hcl
                have HS6 : Hid (s5.cost n t x y cv = s5) := by
                  unfold LS.cost
                  rw [hte, if_neg (by omega)]
                  exact Lib.hid rfl
                obtain ⟨s6, hs66⟩ : ∃ s6, s5 = s6 := ⟨_, rfl⟩
                have HI6 : Hid (LInv n t s6) := hs66 ▸ HI5.out
                have HY6 : Hid (SynL n s6 K5 h5 f5 e5 WW) := hs66 ▸ HY5.out
                have HSC : Hid (s6.c ≤ k + 1) := hs66 ▸ Nat.le_succ_of_le HSC0.out
                have HS6' : Hid (s5.cost n t x y cv = s6) := hs66 ▸ HS6.out
                clear HS6 hs66
                have HS6 := HS6'
                clear HS6'
                have HT0 : Hid ((1 : Int) ≠ 0) := Lib.hid (by omega)
                clear hte hne hk16 hcl hens hen
                as_aux_lemma =>
                  go_wp2_with fail
                  refine (qNear (fun b => lab5 b = [] ∧ b ≠ pm) _ n t K5 h5 f5 e5 WW x y wo HQ.out.qr hn8).mono ?_
                  rintro e w30 ⟨rfl, hb30⟩
                  have HQ30 := Lib.hid (HQ.out.below hb30)
                  have HB30 := Lib.hid (keep HB.out hb30)
                  have HC30 := Lib.hid hb30
                  clear hb30 HQ HB k0 k1 k2 k3 k4 k5
                  have k0 : World.cell? _ ⟨pm, 0, none⟩ = some (.int .i64 t) := HQ30.out.blk.cell 0
                  have k1 : World.cell? _ ⟨pm, 1, none⟩ = some (.slice (some AC) n cC) := HQ30.out.blk.cell 1
                  have k2 : World.cell? _ ⟨pm, 2, none⟩ = some (.slice AW WW.length cW) := HQ30.out.blk.cell 2
                  have k3 : World.cell? _ ⟨pm, 3, none⟩ = some (.slice (some AH) n cH) := HQ30.out.blk.cell 3
                  have k4 : World.cell? _ ⟨pm, 4, none⟩ = some (.slice (some AG) n cF) := HQ30.out.blk.cell 4
                  have k5 : World.cell? _ ⟨pm, 5, none⟩ = some (.slice (some AL) n cL) := HQ30.out.blk.cell 5
                  rw [HEN.out]
                  have cc1 := HCC.out _ HB30.out
                  go_wp2_with fail
                  have hcall := lfiCost lab5 A5 n t s5 x y cv w30 HQ30.out.an hn8 HI5.out
                  rw [HP5.out, HTE.out, HS6.out] at hcall
                  simp only [errV, HT0.out, if_false] at hcall
                  refine hcall.mono ?_
                  clear hcall
                  rintro e w31 ⟨rfl, hA31, hF31⟩
                  have HQ31 := Lib.hid (HQ30.out.turn hA31 HI6.out hF31)
                  have HBL31 := Lib.hid (hF31.below HB30.out.size HLO5.out)
                  have HB31 := Lib.hid (HB30.out.trans HBL31.out.1)
                  have HLO31 := Lib.hid HBL31.out.2
                  clear hA31 hF31 HQ30 HB30 HBL31 k0 k1 k2 k3 k4 k5
                  have k0 : World.cell? _ ⟨pm, 0, none⟩ = some (.int .i64 t) := HQ31.out.blk.cell 0
                  have k1 : World.cell? _ ⟨pm, 1, none⟩ = some (.slice (some AC) n cC) := HQ31.out.blk.cell 1
                  have k2 : World.cell? _ ⟨pm, 2, none⟩ = some (.slice AW WW.length cW) := HQ31.out.blk.cell 2
                  have k3 : World.cell? _ ⟨pm, 3, none⟩ = some (.slice (some AH) n cH) := HQ31.out.blk.cell 3
                  have k4 : World.cell? _ ⟨pm, 4, none⟩ = some (.slice (some AG) n cF) := HQ31.out.blk.cell 4
                  have k5 : World.cell? _ ⟨pm, 5, none⟩ = some (.slice (some AL) n cL) := HQ31.out.blk.cell 5
                  go_wp2_with fail
                  refine (err_no 1 1 true ⟨fun _ => rfl, fun _ => rfl⟩ w31 (HET.out.keep HB31.out)).mono ?_
                  rintro e w32 ⟨rfl, hb32⟩
                  have HQ32 := Lib.hid (HQ31.out.below hb32)
                  have HB32 := Lib.hid (keep HB31.out hb32)
                  have HC32 := Lib.hid hb32
                  clear hb32 HQ31 HB31 k0 k1 k2 k3 k4 k5
                  have k0 : World.cell? _ ⟨pm, 0, none⟩ = some (.int .i64 t) := HQ32.out.blk.cell 0
                  have k1 : World.cell? _ ⟨pm, 1, none⟩ = some (.slice (some AC) n cC) := HQ32.out.blk.cell 1
                  have k2 : World.cell? _ ⟨pm, 2, none⟩ = some (.slice AW WW.length cW) := HQ32.out.blk.cell 2
                  have k3 : World.cell? _ ⟨pm, 3, none⟩ = some (.slice (some AH) n cH) := HQ32.out.blk.cell 3
                  have k4 : World.cell? _ ⟨pm, 4, none⟩ = some (.slice (some AG) n cF) := HQ32.out.blk.cell 4
                  have k5 : World.cell? _ ⟨pm, 5, none⟩ = some (.slice (some AL) n cL) := HQ32.out.blk.cell 5
                  go_wp2_with fail
                  have HQI := HQ32
                  have HBI := HB32
                  clear HQ32 HB32
                  clear k0 k1 k2 k3 k4 k5
                  go_loopw [26] (fun q wi => ∃ i : Nat, i ≤ n ∧ q = .int .i64 i ∧ QL wi lab5 A5 pm #[.int .i64 t, .slice (some AC) n cC, .slice AW WW.length cW, .slice (some AH) n cH, .slice (some AG) n cF, .slice (some AL) n cL] n t s6 K5 h5 f5 e5 WW ∧ Below w.heap.size w wi) (fun q _ => n - (intOf q).toNat)
                  case atStart => exact ⟨0, by omega, rfl, HQI.out, HBI.out⟩
                  case round =>
                    obtain ⟨i, hi, rfl, hqi, hbi⟩ := hrel
                    clear HQI HBI
                    have HQJ := Lib.hid hqi
                    have HBJ := Lib.hid hbi
                    clear hqi hbi
                    by_cases hin7 : i < n
                    · have hin7' : (i : Int) < n := by omega
                      obtain ⟨dd, hdd⟩ : ∃ dd, s6.f i = dd := ⟨_, rfl⟩
                      obtain ⟨de, hde⟩ : ∃ de, s6.e i = de := ⟨_, rfl⟩
                      have hc1 := lfiDist_at HQJ.out.an hn8 i i rfl hin7
                      have hc2 := lfiLeast_at HQJ.out.an hn8 i i rfl hin7
                      have hc3 := lfiNexts lab5 A5 n t s6 i i rfl wr HQJ.out.an hn8 hin7
                      rw [HP5.out] at hc1 hc2 hc3
                      rw [hdd] at hc1
                      rw [hde] at hc2
                      have HD1 := Lib.hid hc1
                      have HD2 := Lib.hid hc2
                      have HD3 := Lib.hid hc3
                      have HDD := Lib.hid hdd
                      have HDE := Lib.hid hde
                      clear hc1 hc2 hc3 hdd hde
                      go_wp2_with fail
                      refine HD1.out.mono ?_
                      rintro e w81 ⟨rfl, h8⟩
                      subst w81
                      clear HD1
                      go_wp2_with fail
                      refine HD2.out.mono ?_
                      rintro e w82 ⟨rfl, h8⟩
                      subst w82
                      clear HD2
                      go_wp2_with fail
                      refine HD3.out.mono ?_
                      rintro e w83 ⟨u83, rfl, ho83, hb83⟩
                      have hnx := HY6.out.nexts_is (t := t) i
                      obtain ⟨ll, hll⟩ : ∃ ll, pickL (nxB n t K5 h5 e5 i) n = ll := ⟨_, rfl⟩
                      have hl8 : ll.length ≤ n := by rw [← hll]; exact pickL_len _ _
                      rw [← hnx, hll] at ho83
                      obtain ⟨Au, cu, rfl, hvu⟩ := ho83.vec
                      have HVU := Lib.hid hvu
                      have HQ83 := Lib.hid (HQJ.out.below hb83)
                      have HB83 := Lib.hid (keep HBJ.out hb83)
                      have HLL := Lib.hid hll
                      clear ho83 hb83 hvu hnx hll HQJ HBJ
                      have k0 : World.cell? _ ⟨pm, 0, none⟩ = some (.int .i64 t) := HQ83.out.blk.cell 0
                      have k1 : World.cell? _ ⟨pm, 1, none⟩ = some (.slice (some AC) n cC) := HQ83.out.blk.cell 1
                      have k2 : World.cell? _ ⟨pm, 2, none⟩ = some (.slice AW WW.length cW) := HQ83.out.blk.cell 2
                      have k3 : World.cell? _ ⟨pm, 3, none⟩ = some (.slice (some AH) n cH) := HQ83.out.blk.cell 3
                      have k4 : World.cell? _ ⟨pm, 4, none⟩ = some (.slice (some AG) n cF) := HQ83.out.blk.cell 4
                      have k5 : World.cell? _ ⟨pm, 5, none⟩ = some (.slice (some AL) n cL) := HQ83.out.blk.cell 5
                      go_wp2_with fail
                      refine (qNexts (fun b => lab5 b = [] ∧ b ≠ pm) _ n t K5 h5 f5 e5 WW i w83 HQ83.out.qr hn8 hin7).mono ?_
                      rintro e w84 ⟨u84, rfl, ho84, hb84⟩
                      rw [HLL.out] at ho84
                      obtain ⟨Aq, cq, rfl, hvq⟩ := ho84.vec
                      have HVQ := Lib.hid hvq
                      have HVU4 := Lib.hid (HVU.out.keep hb84)
                      have HQ84 := Lib.hid (HQ83.out.below hb84)
                      have HB84 := Lib.hid (keep HB83.out hb84)
                      clear ho84 hb84 hvq HQ83 HB83 HVU k0 k1 k2 k3 k4 k5
                      go_wp2_with fail
                      refine (ints_walk Au Aq ll.length ll.length cu cq (atL ll) (atL ll) w84 HVU4.out HVQ.out (by omega) (by omega) true ⟨fun _ => ⟨rfl, fun _ _ => rfl⟩, fun _ => rfl⟩).mono ?_
                      rintro e w85 ⟨rfl, q85, hw85⟩
                      have hb85 : Below w84.heap.size w84 w85 := by subst hw85; exact below_drewN (Below.refl _ _) q85
                      have HQ85 := Lib.hid (HQ84.out.below hb85)
                      have HB85 := Lib.hid (keep HB84.out hb85)
                      clear hw85 hb85 HQ84 HB84 HVU4 HVQ
                      obtain ⟨c8, c9⟩ := HQ85.out.qr.farAt2 hin7
                      rw [HY6.out.f, HDD.out] at c8
                      rw [HY6.out.e, HDE.out] at c9
                      have k0 : World.cell? _ ⟨pm, 0, none⟩ = some (.int .i64 t) := HQ85.out.blk.cell 0
                      have k1 : World.cell? _ ⟨pm, 1, none⟩ = some (.slice (some AC) n cC) := HQ85.out.blk.cell 1
                      have k2 : World.cell? _ ⟨pm, 2, none⟩ = some (.slice AW WW.length cW) := HQ85.out.blk.cell 2
                      have k3 : World.cell? _ ⟨pm, 3, none⟩ = some (.slice (some AH) n cH) := HQ85.out.blk.cell 3
                      have k4 : World.cell? _ ⟨pm, 4, none⟩ = some (.slice (some AG) n cF) := HQ85.out.blk.cell 4
                      have k5 : World.cell? _ ⟨pm, 5, none⟩ = some (.slice (some AL) n cL) := HQ85.out.blk.cell 5
                      clear k0 k1 k2 k3
                      go_wp2_with fail
                      go_roundw
                      case rel => exact ⟨i + 1, by omega, by go_num, HQ85.out, HB85.out⟩
                      case measure => simp [intOf]; omega
                    · have hid7 : decide ((i : Int) < n) = false := decide_eq_false (by omega)
                      have hid8 : decide (n ≤ i) = true := decide_eq_true (by omega)
                      go_wp2_with fail
                      go_roundw
                      case rel => exact ⟨k + 1, by omega, by go_num, ⟨lab5, A5, s6, K5, h5, f5, e5, WW, _, HP5.out, HQJ.out, HY6.out, HLO31.out, HSC.out⟩, HBJ.out⟩
                      case measure => simp [intOf]; omega
              · have hcl0 := hcl
                by_cases hcl : 15 < cv
                · have hte : s5.costE n x y cv = 1 := by
                    unfold LS.costE
                    rw [if_pos ⟨hens, by omega⟩]
                  have HTE := Lib.hid hte
                  have d1 : decide (cv < 1) = false := decide_eq_false hcl0
                  have d2 : decide (15 < cv) = true := decide_eq_true hcl
                  have HS6 : Hid (s5.cost n t x y cv = s5) := by
                    unfold LS.cost
                    rw [hte, if_neg (by omega)]
                    exact Lib.hid rfl
                  obtain ⟨s6, hs66⟩ : ∃ s6, s5 = s6 := ⟨_, rfl⟩
                  have HI6 : Hid (LInv n t s6) := hs66 ▸ HI5.out
                  have HY6 : Hid (SynL n s6 K5 h5 f5 e5 WW) := hs66 ▸ HY5.out
                  have HSC : Hid (s6.c ≤ k + 1) := hs66 ▸ Nat.le_succ_of_le HSC0.out
                  have HS6' : Hid (s5.cost n t x y cv = s6) := hs66 ▸ HS6.out
                  clear HS6 hs66
                  have HS6 := HS6'
                  clear HS6'
                  have HT0 : Hid ((1 : Int) ≠ 0) := Lib.hid (by omega)
                  clear hte hne hk16 hcl hens hen hcl0
                  as_aux_lemma =>
                    go_wp2_with fail
                    refine (qNear (fun b => lab5 b = [] ∧ b ≠ pm) _ n t K5 h5 f5 e5 WW x y wo HQ.out.qr hn8).mono ?_
                    rintro e w33 ⟨rfl, hb33⟩
                    have HQ33 := Lib.hid (HQ.out.below hb33)
                    have HB33 := Lib.hid (keep HB.out hb33)
                    have HC33 := Lib.hid hb33
                    clear hb33 HQ HB k0 k1 k2 k3 k4 k5
                    have k0 : World.cell? _ ⟨pm, 0, none⟩ = some (.int .i64 t) := HQ33.out.blk.cell 0
                    have k1 : World.cell? _ ⟨pm, 1, none⟩ = some (.slice (some AC) n cC) := HQ33.out.blk.cell 1
                    have k2 : World.cell? _ ⟨pm, 2, none⟩ = some (.slice AW WW.length cW) := HQ33.out.blk.cell 2
                    have k3 : World.cell? _ ⟨pm, 3, none⟩ = some (.slice (some AH) n cH) := HQ33.out.blk.cell 3
                    have k4 : World.cell? _ ⟨pm, 4, none⟩ = some (.slice (some AG) n cF) := HQ33.out.blk.cell 4
                    have k5 : World.cell? _ ⟨pm, 5, none⟩ = some (.slice (some AL) n cL) := HQ33.out.blk.cell 5
                    rw [HEN.out]
                    have cc1 := HCC.out _ HB33.out
                    go_wp2_with fail
                    have hcall := lfiCost lab5 A5 n t s5 x y cv w33 HQ33.out.an hn8 HI5.out
                    rw [HP5.out, HTE.out, HS6.out] at hcall
                    simp only [errV, HT0.out, if_false] at hcall
                    refine hcall.mono ?_
                    clear hcall
                    rintro e w34 ⟨rfl, hA34, hF34⟩
                    have HQ34 := Lib.hid (HQ33.out.turn hA34 HI6.out hF34)
                    have HBL34 := Lib.hid (hF34.below HB33.out.size HLO5.out)
                    have HB34 := Lib.hid (HB33.out.trans HBL34.out.1)
                    have HLO34 := Lib.hid HBL34.out.2
                    clear hA34 hF34 HQ33 HB33 HBL34 k0 k1 k2 k3 k4 k5
                    have k0 : World.cell? _ ⟨pm, 0, none⟩ = some (.int .i64 t) := HQ34.out.blk.cell 0
                    have k1 : World.cell? _ ⟨pm, 1, none⟩ = some (.slice (some AC) n cC) := HQ34.out.blk.cell 1
                    have k2 : World.cell? _ ⟨pm, 2, none⟩ = some (.slice AW WW.length cW) := HQ34.out.blk.cell 2
                    have k3 : World.cell? _ ⟨pm, 3, none⟩ = some (.slice (some AH) n cH) := HQ34.out.blk.cell 3
                    have k4 : World.cell? _ ⟨pm, 4, none⟩ = some (.slice (some AG) n cF) := HQ34.out.blk.cell 4
                    have k5 : World.cell? _ ⟨pm, 5, none⟩ = some (.slice (some AL) n cL) := HQ34.out.blk.cell 5
                    go_wp2_with fail
                    refine (err_no 1 1 true ⟨fun _ => rfl, fun _ => rfl⟩ w34 (HET.out.keep HB34.out)).mono ?_
                    rintro e w35 ⟨rfl, hb35⟩
                    have HQ35 := Lib.hid (HQ34.out.below hb35)
                    have HB35 := Lib.hid (keep HB34.out hb35)
                    have HC35 := Lib.hid hb35
                    clear hb35 HQ34 HB34 k0 k1 k2 k3 k4 k5
                    have k0 : World.cell? _ ⟨pm, 0, none⟩ = some (.int .i64 t) := HQ35.out.blk.cell 0
                    have k1 : World.cell? _ ⟨pm, 1, none⟩ = some (.slice (some AC) n cC) := HQ35.out.blk.cell 1
                    have k2 : World.cell? _ ⟨pm, 2, none⟩ = some (.slice AW WW.length cW) := HQ35.out.blk.cell 2
                    have k3 : World.cell? _ ⟨pm, 3, none⟩ = some (.slice (some AH) n cH) := HQ35.out.blk.cell 3
                    have k4 : World.cell? _ ⟨pm, 4, none⟩ = some (.slice (some AG) n cF) := HQ35.out.blk.cell 4
                    have k5 : World.cell? _ ⟨pm, 5, none⟩ = some (.slice (some AL) n cL) := HQ35.out.blk.cell 5
                    go_wp2_with fail
                    have HQI := HQ35
                    have HBI := HB35
                    clear HQ35 HB35
                    clear k0 k1 k2 k3 k4 k5
                    go_loopw [26] (fun q wi => ∃ i : Nat, i ≤ n ∧ q = .int .i64 i ∧ QL wi lab5 A5 pm #[.int .i64 t, .slice (some AC) n cC, .slice AW WW.length cW, .slice (some AH) n cH, .slice (some AG) n cF, .slice (some AL) n cL] n t s6 K5 h5 f5 e5 WW ∧ Below w.heap.size w wi) (fun q _ => n - (intOf q).toNat)
                    case atStart => exact ⟨0, by omega, rfl, HQI.out, HBI.out⟩
                    case round =>
                      obtain ⟨i, hi, rfl, hqi, hbi⟩ := hrel
                      clear HQI HBI
                      have HQJ := Lib.hid hqi
                      have HBJ := Lib.hid hbi
                      clear hqi hbi
                      by_cases hin7 : i < n
                      · have hin7' : (i : Int) < n := by omega
                        obtain ⟨dd, hdd⟩ : ∃ dd, s6.f i = dd := ⟨_, rfl⟩
                        obtain ⟨de, hde⟩ : ∃ de, s6.e i = de := ⟨_, rfl⟩
                        have hc1 := lfiDist_at HQJ.out.an hn8 i i rfl hin7
                        have hc2 := lfiLeast_at HQJ.out.an hn8 i i rfl hin7
                        have hc3 := lfiNexts lab5 A5 n t s6 i i rfl wr HQJ.out.an hn8 hin7
                        rw [HP5.out] at hc1 hc2 hc3
                        rw [hdd] at hc1
                        rw [hde] at hc2
                        have HD1 := Lib.hid hc1
                        have HD2 := Lib.hid hc2
                        have HD3 := Lib.hid hc3
                        have HDD := Lib.hid hdd
                        have HDE := Lib.hid hde
                        clear hc1 hc2 hc3 hdd hde
                        go_wp2_with fail
                        refine HD1.out.mono ?_
                        rintro e w81 ⟨rfl, h8⟩
                        subst w81
                        clear HD1
                        go_wp2_with fail
                        refine HD2.out.mono ?_
                        rintro e w82 ⟨rfl, h8⟩
                        subst w82
                        clear HD2
                        go_wp2_with fail
                        refine HD3.out.mono ?_
                        rintro e w83 ⟨u83, rfl, ho83, hb83⟩
                        have hnx := HY6.out.nexts_is (t := t) i
                        obtain ⟨ll, hll⟩ : ∃ ll, pickL (nxB n t K5 h5 e5 i) n = ll := ⟨_, rfl⟩
                        have hl8 : ll.length ≤ n := by rw [← hll]; exact pickL_len _ _
                        rw [← hnx, hll] at ho83
                        obtain ⟨Au, cu, rfl, hvu⟩ := ho83.vec
                        have HVU := Lib.hid hvu
                        have HQ83 := Lib.hid (HQJ.out.below hb83)
                        have HB83 := Lib.hid (keep HBJ.out hb83)
                        have HLL := Lib.hid hll
                        clear ho83 hb83 hvu hnx hll HQJ HBJ
                        have k0 : World.cell? _ ⟨pm, 0, none⟩ = some (.int .i64 t) := HQ83.out.blk.cell 0
                        have k1 : World.cell? _ ⟨pm, 1, none⟩ = some (.slice (some AC) n cC) := HQ83.out.blk.cell 1
                        have k2 : World.cell? _ ⟨pm, 2, none⟩ = some (.slice AW WW.length cW) := HQ83.out.blk.cell 2
                        have k3 : World.cell? _ ⟨pm, 3, none⟩ = some (.slice (some AH) n cH) := HQ83.out.blk.cell 3
                        have k4 : World.cell? _ ⟨pm, 4, none⟩ = some (.slice (some AG) n cF) := HQ83.out.blk.cell 4
                        have k5 : World.cell? _ ⟨pm, 5, none⟩ = some (.slice (some AL) n cL) := HQ83.out.blk.cell 5
                        go_wp2_with fail
                        refine (qNexts (fun b => lab5 b = [] ∧ b ≠ pm) _ n t K5 h5 f5 e5 WW i w83 HQ83.out.qr hn8 hin7).mono ?_
                        rintro e w84 ⟨u84, rfl, ho84, hb84⟩
                        rw [HLL.out] at ho84
                        obtain ⟨Aq, cq, rfl, hvq⟩ := ho84.vec
                        have HVQ := Lib.hid hvq
                        have HVU4 := Lib.hid (HVU.out.keep hb84)
                        have HQ84 := Lib.hid (HQ83.out.below hb84)
                        have HB84 := Lib.hid (keep HB83.out hb84)
                        clear ho84 hb84 hvq HQ83 HB83 HVU k0 k1 k2 k3 k4 k5
                        go_wp2_with fail
                        refine (ints_walk Au Aq ll.length ll.length cu cq (atL ll) (atL ll) w84 HVU4.out HVQ.out (by omega) (by omega) true ⟨fun _ => ⟨rfl, fun _ _ => rfl⟩, fun _ => rfl⟩).mono ?_
                        rintro e w85 ⟨rfl, q85, hw85⟩
                        have hb85 : Below w84.heap.size w84 w85 := by subst hw85; exact below_drewN (Below.refl _ _) q85
                        have HQ85 := Lib.hid (HQ84.out.below hb85)
                        have HB85 := Lib.hid (keep HB84.out hb85)
                        clear hw85 hb85 HQ84 HB84 HVU4 HVQ
                        obtain ⟨c8, c9⟩ := HQ85.out.qr.farAt2 hin7
                        rw [HY6.out.f, HDD.out] at c8
                        rw [HY6.out.e, HDE.out] at c9
                        have k0 : World.cell? _ ⟨pm, 0, none⟩ = some (.int .i64 t) := HQ85.out.blk.cell 0
                        have k1 : World.cell? _ ⟨pm, 1, none⟩ = some (.slice (some AC) n cC) := HQ85.out.blk.cell 1
                        have k2 : World.cell? _ ⟨pm, 2, none⟩ = some (.slice AW WW.length cW) := HQ85.out.blk.cell 2
                        have k3 : World.cell? _ ⟨pm, 3, none⟩ = some (.slice (some AH) n cH) := HQ85.out.blk.cell 3
                        have k4 : World.cell? _ ⟨pm, 4, none⟩ = some (.slice (some AG) n cF) := HQ85.out.blk.cell 4
                        have k5 : World.cell? _ ⟨pm, 5, none⟩ = some (.slice (some AL) n cL) := HQ85.out.blk.cell 5
                        clear k0 k1 k2 k3
                        go_wp2_with fail
                        go_roundw
                        case rel => exact ⟨i + 1, by omega, by go_num, HQ85.out, HB85.out⟩
                        case measure => simp [intOf]; omega
                      · have hid7 : decide ((i : Int) < n) = false := decide_eq_false (by omega)
                        have hid8 : decide (n ≤ i) = true := decide_eq_true (by omega)
                        go_wp2_with fail
                        go_roundw
                        case rel => exact ⟨k + 1, by omega, by go_num, ⟨lab5, A5, s6, K5, h5, f5, e5, WW, _, HP5.out, HQJ.out, HY6.out, HLO34.out, HSC.out⟩, HBJ.out⟩
                        case measure => simp [intOf]; omega
                · have hte : s5.costE n x y cv = 0 := by
                    unfold LS.costE
                    rw [if_neg (by omega)]
                    exact hens
                  have HTE := Lib.hid hte
                  have d1 : decide (cv < 1) = false := decide_eq_false hcl0
                  have d2 : decide (15 < cv) = false := decide_eq_false hcl
                  have hc1 : 1 ≤ cv := by omega
                  have hc15 : cv ≤ 15 := by omega
                  have HID : Hid (LInv n t ((s5.dear1 x y cv).dear1 y x cv)) := Lib.hid (HI5.out.dear hne hc1 hc15)
                  have hyd := HY5.out.dear1 x y cv
                  obtain ⟨K6, hK6⟩ : ∃ K6, (fun p q => if p = x ∧ q = y then cv else K5 p q) = K6 := ⟨_, rfl⟩
                  rw [hK6] at hyd
                  have hyd2 := hyd.dear1 y x cv
                  obtain ⟨K7, hK7⟩ : ∃ K7, (fun p q => if p = y ∧ q = x then cv else K6 p q) = K7 := ⟨_, rfl⟩
                  rw [hK7] at hyd2
                  have HK6 := Lib.hid hK6
                  have HK7 := Lib.hid hK7
                  have HKR : Hid (∀ u v, u < n → v < n → 0 ≤ K7 u v ∧ K7 u v ≤ 16) := by
                    rw [hyd2.K]
                    exact Lib.hid fun u v hu hv => ⟨HID.out.cost.nonneg hu hv, HID.out.cost.high u v hu hv⟩
                  have HHR : Hid (∀ u v, u < n → v < n → 0 ≤ h5 u v ∧ h5 u v ≤ 16) := by
                    rw [hyd2.h]
                    exact Lib.hid fun _ _ hi hk => HID.out.hrd0 hi hk
                  have HYD := Lib.hid hyd2
                  have HTE0 := Lib.hid hte
                  obtain ⟨s6, hs6'⟩ : ∃ s6, s5.cost n t x y cv = s6 := ⟨_, rfl⟩
                  have HS6 := Lib.hid hs6'
                  have HI6 : Hid (LInv n t s6) := by
                    rw [← hs6']
                    exact Lib.hid (HI5.out.cost' x y cv)
                  have HSC : Hid (s6.c ≤ k + 1) := by
                    rw [← hs6']
                    exact Lib.hid (Nat.le_trans (costQ_c _ _ _ _ _ _) (Nat.succ_le_succ HSC0.out))
                  clear hyd hyd2 hK6 hK7 hcl hcl0 hens hen hk16 hs6'
                  rcases Nat.lt_or_gt_of_ne hne with hlt | hlt
                  · have hs6 : s6 = (((s5.dear1 x y cv).dear1 y x cv).anew n t x).anew n t y := by
                      rw [← HS6.out]
                      unfold LS.cost
                      rw [hte, if_pos rfl, show ((x : Int)).toNat = x by omega, show ((y : Int)).toNat = y by omega, show (min (x : Int) (y : Int)).toNat = x by omega, show (max (x : Int) (y : Int)).toNat = y by omega]
                      rfl
                    have hy1 := HYD.out.anew (t := t) x
                    obtain ⟨f6, hf6⟩ : ∃ f6, (if x = t then f5 else upd f5 x (newQ n t K7 h5 e5 x)) = f6 := ⟨_, rfl⟩
                    obtain ⟨e6, he6⟩ : ∃ e6, (if x = t then e5 else upd e5 x (min (e5 x) (newQ n t K7 h5 e5 x))) = e6 := ⟨_, rfl⟩
                    rw [hf6, he6] at hy1
                    have hy2 := hy1.anew (t := t) y
                    obtain ⟨f7, hf7⟩ : ∃ f7, (if y = t then f6 else upd f6 y (newQ n t K7 h5 e6 y)) = f7 := ⟨_, rfl⟩
                    obtain ⟨e7, he7⟩ : ∃ e7, (if y = t then e6 else upd e6 y (min (e6 y) (newQ n t K7 h5 e6 y))) = e7 := ⟨_, rfl⟩
                    rw [hf7, he7, ← hs6] at hy2
                    have HF6 := Lib.hid hf6
                    have HE6 := Lib.hid he6
                    have HF7 := Lib.hid hf7
                    have HE7 := Lib.hid he7
                    have HY6 := Lib.hid hy2
                    have hm1 : x < y := hlt
                    have hm2 : ¬ y < x := by omega
                    have hm3 : (x : Int) < (y : Int) := by omega
                    have hm4 : ¬ (y : Int) < (x : Int) := by omega
                    clear hs6 hy1 hy2 hf6 he6 hf7 he7 hte hne hlt
                    as_aux_lemma =>
                      go_wp2_with fail
                      refine (qNear (fun b => lab5 b = [] ∧ b ≠ pm) _ n t K5 h5 f5 e5 WW x y wo HQ.out.qr hn8).mono ?_
                      rintro e w36 ⟨rfl, hb36⟩
                      have HQ36 := Lib.hid (HQ.out.below hb36)
                      have HB36 := Lib.hid (keep HB.out hb36)
                      have HC36 := Lib.hid hb36
                      clear hb36 HQ HB k0 k1 k2 k3 k4 k5
                      have k0 : World.cell? _ ⟨pm, 0, none⟩ = some (.int .i64 t) := HQ36.out.blk.cell 0
                      have k1 : World.cell? _ ⟨pm, 1, none⟩ = some (.slice (some AC) n cC) := HQ36.out.blk.cell 1
                      have k2 : World.cell? _ ⟨pm, 2, none⟩ = some (.slice AW WW.length cW) := HQ36.out.blk.cell 2
                      have k3 : World.cell? _ ⟨pm, 3, none⟩ = some (.slice (some AH) n cH) := HQ36.out.blk.cell 3
                      have k4 : World.cell? _ ⟨pm, 4, none⟩ = some (.slice (some AG) n cF) := HQ36.out.blk.cell 4
                      have k5 : World.cell? _ ⟨pm, 5, none⟩ = some (.slice (some AL) n cL) := HQ36.out.blk.cell 5
                      rw [HEN.out]
                      have cc1 := HCC.out _ HB36.out
                      go_wp2_with fail
                      have hcall := lfiCost lab5 A5 n t s5 x y cv w36 HQ36.out.an hn8 HI5.out
                      rw [HP5.out, HTE.out, HS6.out] at hcall
                      rw [errV_zero] at hcall
                      refine hcall.mono ?_
                      clear hcall
                      rintro e w37 ⟨rfl, hA37, hF37⟩
                      have HQ37 := Lib.hid (HQ36.out.turn hA37 HI6.out hF37)
                      have HBL37 := Lib.hid (hF37.below HB36.out.size HLO5.out)
                      have HB37 := Lib.hid (HB36.out.trans HBL37.out.1)
                      have HLO37 := Lib.hid HBL37.out.2
                      clear hA37 hF37 HQ36 HB36 HBL37 k0 k1 k2 k3 k4 k5
                      have k0 : World.cell? _ ⟨pm, 0, none⟩ = some (.int .i64 t) := HQ37.out.blk.cell 0
                      have k1 : World.cell? _ ⟨pm, 1, none⟩ = some (.slice (some AC) n cC) := HQ37.out.blk.cell 1
                      have k2 : World.cell? _ ⟨pm, 2, none⟩ = some (.slice AW WW.length cW) := HQ37.out.blk.cell 2
                      have k3 : World.cell? _ ⟨pm, 3, none⟩ = some (.slice (some AH) n cH) := HQ37.out.blk.cell 3
                      have k4 : World.cell? _ ⟨pm, 4, none⟩ = some (.slice (some AG) n cF) := HQ37.out.blk.cell 4
                      have k5 : World.cell? _ ⟨pm, 5, none⟩ = some (.slice (some AL) n cL) := HQ37.out.blk.cell 5
                      go_wp2_with fail
                      refine (err_nil 0 true ⟨fun _ => rfl, fun _ => rfl⟩ w37).mono ?_
                      rintro e w38 ⟨rfl, hb38⟩
                      have HQ38 := Lib.hid (HQ37.out.below hb38)
                      have HB38 := Lib.hid (keep HB37.out hb38)
                      have HC38 := Lib.hid hb38
                      clear hb38 HQ37 HB37 k0 k1 k2 k3 k4 k5
                      have k0 : World.cell? _ ⟨pm, 0, none⟩ = some (.int .i64 t) := HQ38.out.blk.cell 0
                      have k1 : World.cell? _ ⟨pm, 1, none⟩ = some (.slice (some AC) n cC) := HQ38.out.blk.cell 1
                      have k2 : World.cell? _ ⟨pm, 2, none⟩ = some (.slice AW WW.length cW) := HQ38.out.blk.cell 2
                      have k3 : World.cell? _ ⟨pm, 3, none⟩ = some (.slice (some AH) n cH) := HQ38.out.blk.cell 3
                      have k4 : World.cell? _ ⟨pm, 4, none⟩ = some (.slice (some AG) n cF) := HQ38.out.blk.cell 4
                      have k5 : World.cell? _ ⟨pm, 5, none⟩ = some (.slice (some AL) n cL) := HQ38.out.blk.cell 5
                      go_wp2_with fail
                      refine (copied_walk (fun b => lab5 b = [] ∧ b ≠ pm) _ n t K5 h5 f5 e5 WW w38 HQ38.out.qr hn1 hn8 (by have := HY5.out.len HI5.out hn8; omega)).mono ?_
                      rintro e w39 ⟨d39, rfl, hcp39, hb39⟩
                      have HL39 := Lib.hid (HQ38.out.an.free)
                      have HPL39 := Lib.hid (HQ38.out.blk.lt)
                      have HQ39 := Lib.hid (HQ38.out.below hb39)
                      have HB39 := Lib.hid (keep HB38.out hb39)
                      have HC39 := Lib.hid hb39
                      clear hb39 HQ38 HB38
                      try clear k0 k1 k2 k3 k4 k5
                      have k0 : World.cell? _ ⟨pm, 0, none⟩ = some (.int .i64 t) := HQ39.out.blk.cell 0
                      have k1 : World.cell? _ ⟨pm, 1, none⟩ = some (.slice (some AC) n cC) := HQ39.out.blk.cell 1
                      have k2 : World.cell? _ ⟨pm, 2, none⟩ = some (.slice AW WW.length cW) := HQ39.out.blk.cell 2
                      have k3 : World.cell? _ ⟨pm, 3, none⟩ = some (.slice (some AH) n cH) := HQ39.out.blk.cell 3
                      have k4 : World.cell? _ ⟨pm, 4, none⟩ = some (.slice (some AG) n cF) := HQ39.out.blk.cell 4
                      have k5 : World.cell? _ ⟨pm, 5, none⟩ = some (.slice (some AL) n cL) := HQ39.out.blk.cell 5
                      obtain ⟨AV, qV, eV, -, -⟩ := (CN.of hcp39).way.lnk
                      have hval : d39.val n t = #[.int .i64 t, .slice (some ⟨d39.gC, 0, none⟩) n d39.cC, .slice AV WW.length qV, .slice (some ⟨d39.gH, 0, none⟩) n d39.cH, .slice (some ⟨d39.gF, 0, none⟩) n d39.cF, .slice (some ⟨d39.gL, 0, none⟩) n d39.cL] := by
                        unfold CD.val
                        rw [eV]
                      have hcn := CN.of hcp39
                      rw [eV] at hcn
                      rw [hval]
                      have HCN := Lib.hid hcn
                      clear hcp39 hval eV hcn
                      have hvl : QR (fun b => _ ≤ b) _ #[.int .i64 t, .slice (some ⟨d39.gC, 0, none⟩) n d39.cC, .slice AV WW.length qV, .slice (some ⟨d39.gH, 0, none⟩) n d39.cH, .slice (some ⟨d39.gF, 0, none⟩) n d39.cF, .slice (some ⟨d39.gL, 0, none⟩) n d39.cL] n t K5 h5 f5 e5 WW := HCN.out.reads
                      have hBp : pm < _ := Nat.lt_of_lt_of_le HPL39.out (Nat.le_add_right _ 2)
                      have hcn2 : CN _ n t K5 h5 f5 e5 WW d39 (.slice AV WW.length qV) (World.setRow w39 pm #[.int .i64 t, .slice (some ⟨d39.gC, 0, none⟩) n d39.cC, .slice AV WW.length qV, .slice (some ⟨d39.gH, 0, none⟩) n d39.cH, .slice (some ⟨d39.gF, 0, none⟩) n d39.cF, .slice (some ⟨d39.gL, 0, none⟩) n d39.cL]) := HCN.out.same fun b hb _ => setRow_other _ pm b _ (by omega)
                      have hq40 := HQ39.out.put hvl hBp (fun b hb => HL39.out b (by omega))
                      have HP40 := Lib.hid HQ39.out.blk
                      have HB40 : Hid (Below w.heap.size w (World.setRow _ pm _)) := below_setRow0 HB39.out HPM.out #[.int .i64 t, .slice (some ⟨d39.gC, 0, none⟩) n d39.cC, .slice AV WW.length qV, .slice (some ⟨d39.gH, 0, none⟩) n d39.cH, .slice (some ⟨d39.gF, 0, none⟩) n d39.cF, .slice (some ⟨d39.gL, 0, none⟩) n d39.cL]
                      have HQ40 := Lib.hid hq40
                      clear hq40 HQ39 HB39
                      try clear k0 k1 k2 k3 k4 k5
                      have k0 : World.cell? _ ⟨pm, 0, none⟩ = some (.int .i64 t) := HQ40.out.blk.cell 0
                      have k1 : World.cell? _ ⟨pm, 1, none⟩ = some (.slice (some ⟨d39.gC, 0, none⟩) n d39.cC) := HQ40.out.blk.cell 1
                      have k2 : World.cell? _ ⟨pm, 2, none⟩ = some (.slice AV WW.length qV) := HQ40.out.blk.cell 2
                      have k3 : World.cell? _ ⟨pm, 3, none⟩ = some (.slice (some ⟨d39.gH, 0, none⟩) n d39.cH) := HQ40.out.blk.cell 3
                      have k4 : World.cell? _ ⟨pm, 4, none⟩ = some (.slice (some ⟨d39.gF, 0, none⟩) n d39.cF) := HQ40.out.blk.cell 4
                      have k5 : World.cell? _ ⟨pm, 5, none⟩ = some (.slice (some ⟨d39.gL, 0, none⟩) n d39.cL) := HQ40.out.blk.cell 5
                      go_wp2_with (refine wpList_store_row rfl 37 (.tmp 20) (.tmp 201) rfl pm #[.int .i64 t, .slice (some ⟨d39.gC, 0, none⟩) n d39.cC, .slice AV WW.length qV, .slice (some ⟨d39.gH, 0, none⟩) n d39.cH, .slice (some ⟨d39.gF, 0, none⟩) n d39.cF, .slice (some ⟨d39.gL, 0, none⟩) n d39.cL] rfl rfl _ _ HP40.out (by kernel_rfl) rfl (by simp [Value.oneCell']) ?_)
                      obtain ⟨w41, hw41⟩ : ∃ w', World.setRow w39 pm #[.int .i64 t, .slice (some ⟨d39.gC, 0, none⟩) n d39.cC, .slice AV WW.length qV, .slice (some ⟨d39.gH, 0, none⟩) n d39.cH, .slice (some ⟨d39.gF, 0, none⟩) n d39.cF, .slice (some ⟨d39.gL, 0, none⟩) n d39.cL] = w' := ⟨_, rfl⟩
                      rw [hw41] at HQ40 HB40 k0 k1 k2 k3 k4 k5 hcn2 ⊢
                      clear hw41 HP40
                      have HCN2 := Lib.hid hcn2
                      clear hcn2 hvl HCN
                      have rR := HCN2.out.t1.row.cell hx
                      have rC := (HCN2.out.t1.rows x hx).2.2.cell hy
                      have rF := (HCN2.out.t1.rows x hx).2.2.frozen y
                      have hg1 := (HCN2.out.t1.rows x hx).1
                      have cc1 := HCC.out _ HB40.out
                      have hcs42 := HCN2.out.setCost hx y cv
                      rw [HK6.out] at hcs42
                      have hvs42 : QR (fun b => _ ≤ b) (World.setCell w41 ⟨d39.BC x, y, none⟩ (.int .i64 cv)) #[.int .i64 t, .slice (some ⟨d39.gC, 0, none⟩) n d39.cC, .slice AV WW.length qV, .slice (some ⟨d39.gH, 0, none⟩) n d39.cH, .slice (some ⟨d39.gF, 0, none⟩) n d39.cF, .slice (some ⟨d39.gL, 0, none⟩) n d39.cL] n t K6 h5 f5 e5 WW := hcs42.reads
                      have hqs42 := (HQ40.out.cell hvs42 hBp hg1 (fun b hb => HL39.out b (by omega))).below (Below.refl _ _).drew
                      have hbs42 : Below w.heap.size w (World.setCell w41 ⟨d39.BC x, y, none⟩ (.int .i64 cv)).drew := (HB40.out.setCell (by show w.heap.size ≤ d39.BC x; have := HPM.out; omega) _).drew
                      have hcd42 : CN _ n t K6 h5 f5 e5 WW d39 (.slice AV WW.length qV) (World.setCell w41 ⟨d39.BC x, y, none⟩ (.int .i64 cv)).drew := hcs42.same fun _ _ _ => rfl
                      have HQ42 := Lib.hid hqs42
                      have HB42 := Lib.hid hbs42
                      have HD42 := Lib.hid hcd42
                      clear hcs42 hvs42 hqs42 hbs42 hcd42
                      try simp only [Act.put]
                      refine wp_region_quiet_tail 11 (by kernel_rfl) (by kernel_rfl) ?_
                      simp only [List.take_succ_cons, List.take_zero, List.drop_succ_cons, List.drop_zero]
                      repeat (go_big_quiet_step (fail))
                      refine wpQuiet_nil ?_
                      clear k0 k1 k2 k3 k4 k5
                      have k0 : World.cell? _ ⟨pm, 0, none⟩ = some (.int .i64 t) := HQ42.out.blk.cell 0
                      have k1 : World.cell? _ ⟨pm, 1, none⟩ = some (.slice (some ⟨d39.gC, 0, none⟩) n d39.cC) := HQ42.out.blk.cell 1
                      have k2 : World.cell? _ ⟨pm, 2, none⟩ = some (.slice AV WW.length qV) := HQ42.out.blk.cell 2
                      have k3 : World.cell? _ ⟨pm, 3, none⟩ = some (.slice (some ⟨d39.gH, 0, none⟩) n d39.cH) := HQ42.out.blk.cell 3
                      have k4 : World.cell? _ ⟨pm, 4, none⟩ = some (.slice (some ⟨d39.gF, 0, none⟩) n d39.cF) := HQ42.out.blk.cell 4
                      have k5 : World.cell? _ ⟨pm, 5, none⟩ = some (.slice (some ⟨d39.gL, 0, none⟩) n d39.cL) := HQ42.out.blk.cell 5
                      go_wp2_with fail
                      clear rR rC rF cc1 hg1
                      obtain ⟨w43, hw43⟩ : ∃ w', (World.setCell w41 ⟨d39.BC x, y, none⟩ (.int .i64 cv)).drew = w' := ⟨_, rfl⟩
                      rw [hw43] at HQ42 HB42 HD42 k0 k1 k2 k3 k4 k5 ⊢
                      clear hw43
                      have rR := HD42.out.t1.row.cell hy
                      have rC := (HD42.out.t1.rows y hy).2.2.cell hx
                      have rF := (HD42.out.t1.rows y hy).2.2.frozen x
                      have hg1 := (HD42.out.t1.rows y hy).1
                      have cc1 := HCC.out _ HB42.out
                      have hcs44 := HD42.out.setCost hy x cv
                      rw [HK7.out] at hcs44
                      have hvs44 : QR (fun b => _ ≤ b) (World.setCell w43 ⟨d39.BC y, x, none⟩ (.int .i64 cv)) #[.int .i64 t, .slice (some ⟨d39.gC, 0, none⟩) n d39.cC, .slice AV WW.length qV, .slice (some ⟨d39.gH, 0, none⟩) n d39.cH, .slice (some ⟨d39.gF, 0, none⟩) n d39.cF, .slice (some ⟨d39.gL, 0, none⟩) n d39.cL] n t K7 h5 f5 e5 WW := hcs44.reads
                      have hqs44 := (HQ42.out.cell hvs44 hBp hg1 (fun b hb => HL39.out b (by omega))).below (Below.refl _ _).drew
                      have hbs44 : Below w.heap.size w (World.setCell w43 ⟨d39.BC y, x, none⟩ (.int .i64 cv)).drew := (HB42.out.setCell (by show w.heap.size ≤ d39.BC y; have := HPM.out; omega) _).drew
                      have hcd44 : CN _ n t K7 h5 f5 e5 WW d39 (.slice AV WW.length qV) (World.setCell w43 ⟨d39.BC y, x, none⟩ (.int .i64 cv)).drew := hcs44.same fun _ _ _ => rfl
                      have HQ44 := Lib.hid hqs44
                      have HB44 := Lib.hid hbs44
                      have HD44 := Lib.hid hcd44
                      clear hcs44 hvs44 hqs44 hbs44 hcd44
                      try simp only [Act.put]
                      refine wp_region_quiet_tail 11 (by kernel_rfl) (by kernel_rfl) ?_
                      simp only [List.take_succ_cons, List.take_zero, List.drop_succ_cons, List.drop_zero]
                      repeat (go_big_quiet_step (fail))
                      refine wpQuiet_nil ?_
                      clear k0 k1 k2 k3 k4 k5
                      have k0 : World.cell? _ ⟨pm, 0, none⟩ = some (.int .i64 t) := HQ44.out.blk.cell 0
                      have k1 : World.cell? _ ⟨pm, 1, none⟩ = some (.slice (some ⟨d39.gC, 0, none⟩) n d39.cC) := HQ44.out.blk.cell 1
                      have k2 : World.cell? _ ⟨pm, 2, none⟩ = some (.slice AV WW.length qV) := HQ44.out.blk.cell 2
                      have k3 : World.cell? _ ⟨pm, 3, none⟩ = some (.slice (some ⟨d39.gH, 0, none⟩) n d39.cH) := HQ44.out.blk.cell 3
                      have k4 : World.cell? _ ⟨pm, 4, none⟩ = some (.slice (some ⟨d39.gF, 0, none⟩) n d39.cF) := HQ44.out.blk.cell 4
                      have k5 : World.cell? _ ⟨pm, 5, none⟩ = some (.slice (some ⟨d39.gL, 0, none⟩) n d39.cL) := HQ44.out.blk.cell 5
                      go_wp2_with fail
                      clear rR rC rF cc1 hg1
                      obtain ⟨w45, hw45⟩ : ∃ w', (World.setCell w43 ⟨d39.BC y, x, none⟩ (.int .i64 cv)).drew = w' := ⟨_, rfl⟩
                      rw [hw45] at HQ44 HB44 HD44 k0 k1 k2 k3 k4 k5 ⊢
                      clear hw45
                      refine (qAnew (fun b => lab5 b = [] ∧ b ≠ pm) _ n t K7 h5 f5 e5 WW x w45 HQ44.out.qr hn1 hn8 (by have := HY5.out.len HI5.out hn8; omega) hx HKR.out HHR.out).mono ?_
                      rintro e w46 ⟨v46, rfl, hv46, hb46⟩
                      have HL46 := Lib.hid (HQ44.out.an.free)
                      have HPL46 := Lib.hid (HQ44.out.blk.lt)
                      have HQ46 := Lib.hid (HQ44.out.below hb46)
                      have HB46 := Lib.hid (keep HB44.out hb46)
                      have HC46 := Lib.hid hb46
                      clear hb46 HQ44 HB44
                      try clear k0 k1 k2 k3 k4 k5
                      rw [HF6.out, HE6.out] at hv46
                      go_wp2_with fail
                      refine (qAnew (fun b => _ ≤ b) _ n t K7 h5 f6 e6 WW y w46 hv46 hn1 hn8 (by have := HY5.out.len HI5.out hn8; omega) hy HKR.out HHR.out).mono ?_
                      rintro e w47 ⟨v47, rfl, hv47, hb47⟩
                      have HL47 := Lib.hid (HQ46.out.an.free)
                      have HPL47 := Lib.hid (HQ46.out.blk.lt)
                      have HQ47 := Lib.hid (HQ46.out.below hb47)
                      have HB47 := Lib.hid (keep HB46.out hb47)
                      have HC47 := Lib.hid hb47
                      clear hb47 HQ46 HB46
                      try clear k0 k1 k2 k3 k4 k5
                      rw [HF7.out, HE7.out] at hv47
                      have hvv := hv47
                      obtain ⟨ACz, cCz, AWz, cWz, AHz, cHz, AGz, cFz, ALz, cLz, rfl, -⟩ := hvv
                      have hq48 := HQ47.out.put hv47 HPL47.out HL47.out
                      have HP48 := Lib.hid HQ47.out.blk
                      have HB48 : Hid (Below w.heap.size w (World.setRow _ pm _)) := below_setRow0 HB47.out HPM.out #[.int .i64 t, .slice (some ACz) n cCz, .slice AWz WW.length cWz, .slice (some AHz) n cHz, .slice (some AGz) n cFz, .slice (some ALz) n cLz]
                      have HQ48 := Lib.hid hq48
                      clear hq48 HQ47 HB47
                      try clear k0 k1 k2 k3 k4 k5
                      have k0 : World.cell? _ ⟨pm, 0, none⟩ = some (.int .i64 t) := HQ48.out.blk.cell 0
                      have k1 : World.cell? _ ⟨pm, 1, none⟩ = some (.slice (some ACz) n cCz) := HQ48.out.blk.cell 1
                      have k2 : World.cell? _ ⟨pm, 2, none⟩ = some (.slice AWz WW.length cWz) := HQ48.out.blk.cell 2
                      have k3 : World.cell? _ ⟨pm, 3, none⟩ = some (.slice (some AHz) n cHz) := HQ48.out.blk.cell 3
                      have k4 : World.cell? _ ⟨pm, 4, none⟩ = some (.slice (some AGz) n cFz) := HQ48.out.blk.cell 4
                      have k5 : World.cell? _ ⟨pm, 5, none⟩ = some (.slice (some ALz) n cLz) := HQ48.out.blk.cell 5
                      go_wp2_with (refine wpList_store_row rfl 37 (.tmp 20) (.tmp 232) rfl pm #[.int .i64 t, .slice (some ACz) n cCz, .slice AWz WW.length cWz, .slice (some AHz) n cHz, .slice (some AGz) n cFz, .slice (some ALz) n cLz] rfl rfl _ _ HP48.out (by kernel_rfl) rfl (by simp [Value.oneCell']) ?_)
                      obtain ⟨w49, hw49⟩ : ∃ w', World.setRow w47 pm #[.int .i64 t, .slice (some ACz) n cCz, .slice AWz WW.length cWz, .slice (some AHz) n cHz, .slice (some AGz) n cFz, .slice (some ALz) n cLz] = w' := ⟨_, rfl⟩
                      rw [hw49] at HQ48 HB48 k0 k1 k2 k3 k4 k5 ⊢
                      clear hw49 HP48
                      go_wp2_with fail
                      have HQI := HQ48
                      have HBI := HB48
                      clear HQ48 HB48
                      clear k0 k1 k2 k3 k4 k5
                      go_loopw [26] (fun q wi => ∃ i : Nat, i ≤ n ∧ q = .int .i64 i ∧ QL wi lab5 A5 pm #[.int .i64 t, .slice (some ACz) n cCz, .slice AWz WW.length cWz, .slice (some AHz) n cHz, .slice (some AGz) n cFz, .slice (some ALz) n cLz] n t s6 K7 h5 f7 e7 WW ∧ Below w.heap.size w wi) (fun q _ => n - (intOf q).toNat)
                      case atStart => exact ⟨0, by omega, rfl, HQI.out, HBI.out⟩
                      case round =>
                        obtain ⟨i, hi, rfl, hqi, hbi⟩ := hrel
                        clear HQI HBI
                        have HQJ := Lib.hid hqi
                        have HBJ := Lib.hid hbi
                        clear hqi hbi
                        by_cases hin7 : i < n
                        · have hin7' : (i : Int) < n := by omega
                          obtain ⟨dd, hdd⟩ : ∃ dd, s6.f i = dd := ⟨_, rfl⟩
                          obtain ⟨de, hde⟩ : ∃ de, s6.e i = de := ⟨_, rfl⟩
                          have hc1 := lfiDist_at HQJ.out.an hn8 i i rfl hin7
                          have hc2 := lfiLeast_at HQJ.out.an hn8 i i rfl hin7
                          have hc3 := lfiNexts lab5 A5 n t s6 i i rfl wr HQJ.out.an hn8 hin7
                          rw [HP5.out] at hc1 hc2 hc3
                          rw [hdd] at hc1
                          rw [hde] at hc2
                          have HD1 := Lib.hid hc1
                          have HD2 := Lib.hid hc2
                          have HD3 := Lib.hid hc3
                          have HDD := Lib.hid hdd
                          have HDE := Lib.hid hde
                          clear hc1 hc2 hc3 hdd hde
                          go_wp2_with fail
                          refine HD1.out.mono ?_
                          rintro e w81 ⟨rfl, h8⟩
                          subst w81
                          clear HD1
                          go_wp2_with fail
                          refine HD2.out.mono ?_
                          rintro e w82 ⟨rfl, h8⟩
                          subst w82
                          clear HD2
                          go_wp2_with fail
                          refine HD3.out.mono ?_
                          rintro e w83 ⟨u83, rfl, ho83, hb83⟩
                          have hnx := HY6.out.nexts_is (t := t) i
                          obtain ⟨ll, hll⟩ : ∃ ll, pickL (nxB n t K7 h5 e7 i) n = ll := ⟨_, rfl⟩
                          have hl8 : ll.length ≤ n := by rw [← hll]; exact pickL_len _ _
                          rw [← hnx, hll] at ho83
                          obtain ⟨Au, cu, rfl, hvu⟩ := ho83.vec
                          have HVU := Lib.hid hvu
                          have HQ83 := Lib.hid (HQJ.out.below hb83)
                          have HB83 := Lib.hid (keep HBJ.out hb83)
                          have HLL := Lib.hid hll
                          clear ho83 hb83 hvu hnx hll HQJ HBJ
                          have k0 : World.cell? _ ⟨pm, 0, none⟩ = some (.int .i64 t) := HQ83.out.blk.cell 0
                          have k1 : World.cell? _ ⟨pm, 1, none⟩ = some (.slice (some ACz) n cCz) := HQ83.out.blk.cell 1
                          have k2 : World.cell? _ ⟨pm, 2, none⟩ = some (.slice AWz WW.length cWz) := HQ83.out.blk.cell 2
                          have k3 : World.cell? _ ⟨pm, 3, none⟩ = some (.slice (some AHz) n cHz) := HQ83.out.blk.cell 3
                          have k4 : World.cell? _ ⟨pm, 4, none⟩ = some (.slice (some AGz) n cFz) := HQ83.out.blk.cell 4
                          have k5 : World.cell? _ ⟨pm, 5, none⟩ = some (.slice (some ALz) n cLz) := HQ83.out.blk.cell 5
                          go_wp2_with fail
                          refine (qNexts (fun b => lab5 b = [] ∧ b ≠ pm) _ n t K7 h5 f7 e7 WW i w83 HQ83.out.qr hn8 hin7).mono ?_
                          rintro e w84 ⟨u84, rfl, ho84, hb84⟩
                          rw [HLL.out] at ho84
                          obtain ⟨Aq, cq, rfl, hvq⟩ := ho84.vec
                          have HVQ := Lib.hid hvq
                          have HVU4 := Lib.hid (HVU.out.keep hb84)
                          have HQ84 := Lib.hid (HQ83.out.below hb84)
                          have HB84 := Lib.hid (keep HB83.out hb84)
                          clear ho84 hb84 hvq HQ83 HB83 HVU k0 k1 k2 k3 k4 k5
                          go_wp2_with fail
                          refine (ints_walk Au Aq ll.length ll.length cu cq (atL ll) (atL ll) w84 HVU4.out HVQ.out (by omega) (by omega) true ⟨fun _ => ⟨rfl, fun _ _ => rfl⟩, fun _ => rfl⟩).mono ?_
                          rintro e w85 ⟨rfl, q85, hw85⟩
                          have hb85 : Below w84.heap.size w84 w85 := by subst hw85; exact below_drewN (Below.refl _ _) q85
                          have HQ85 := Lib.hid (HQ84.out.below hb85)
                          have HB85 := Lib.hid (keep HB84.out hb85)
                          clear hw85 hb85 HQ84 HB84 HVU4 HVQ
                          obtain ⟨c8, c9⟩ := HQ85.out.qr.farAt2 hin7
                          rw [HY6.out.f, HDD.out] at c8
                          rw [HY6.out.e, HDE.out] at c9
                          have k0 : World.cell? _ ⟨pm, 0, none⟩ = some (.int .i64 t) := HQ85.out.blk.cell 0
                          have k1 : World.cell? _ ⟨pm, 1, none⟩ = some (.slice (some ACz) n cCz) := HQ85.out.blk.cell 1
                          have k2 : World.cell? _ ⟨pm, 2, none⟩ = some (.slice AWz WW.length cWz) := HQ85.out.blk.cell 2
                          have k3 : World.cell? _ ⟨pm, 3, none⟩ = some (.slice (some AHz) n cHz) := HQ85.out.blk.cell 3
                          have k4 : World.cell? _ ⟨pm, 4, none⟩ = some (.slice (some AGz) n cFz) := HQ85.out.blk.cell 4
                          have k5 : World.cell? _ ⟨pm, 5, none⟩ = some (.slice (some ALz) n cLz) := HQ85.out.blk.cell 5
                          clear k0 k1 k2 k3
                          go_wp2_with fail
                          go_roundw
                          case rel => exact ⟨i + 1, by omega, by go_num, HQ85.out, HB85.out⟩
                          case measure => simp [intOf]; omega
                        · have hid7 : decide ((i : Int) < n) = false := decide_eq_false (by omega)
                          have hid8 : decide (n ≤ i) = true := decide_eq_true (by omega)
                          go_wp2_with fail
                          go_roundw
                          case rel => exact ⟨k + 1, by omega, by go_num, ⟨lab5, A5, s6, K7, h5, f7, e7, WW, _, HP5.out, HQJ.out, HY6.out, HLO37.out, HSC.out⟩, HBJ.out⟩
                          case measure => simp [intOf]; omega
                  · have hs6 : s6 = (((s5.dear1 x y cv).dear1 y x cv).anew n t y).anew n t x := by
                      rw [← HS6.out]
                      unfold LS.cost
                      rw [hte, if_pos rfl, show ((x : Int)).toNat = x by omega, show ((y : Int)).toNat = y by omega, show (min (x : Int) (y : Int)).toNat = y by omega, show (max (x : Int) (y : Int)).toNat = x by omega]
                      rfl
                    have hy1 := HYD.out.anew (t := t) y
                    obtain ⟨f6, hf6⟩ : ∃ f6, (if y = t then f5 else upd f5 y (newQ n t K7 h5 e5 y)) = f6 := ⟨_, rfl⟩
                    obtain ⟨e6, he6⟩ : ∃ e6, (if y = t then e5 else upd e5 y (min (e5 y) (newQ n t K7 h5 e5 y))) = e6 := ⟨_, rfl⟩
                    rw [hf6, he6] at hy1
                    have hy2 := hy1.anew (t := t) x
                    obtain ⟨f7, hf7⟩ : ∃ f7, (if x = t then f6 else upd f6 x (newQ n t K7 h5 e6 x)) = f7 := ⟨_, rfl⟩
                    obtain ⟨e7, he7⟩ : ∃ e7, (if x = t then e6 else upd e6 x (min (e6 x) (newQ n t K7 h5 e6 x))) = e7 := ⟨_, rfl⟩
                    rw [hf7, he7, ← hs6] at hy2
                    have HF6 := Lib.hid hf6
                    have HE6 := Lib.hid he6
                    have HF7 := Lib.hid hf7
                    have HE7 := Lib.hid he7
                    have HY6 := Lib.hid hy2
                    have hm1 : y < x := hlt
                    have hm2 : ¬ x < y := by omega
                    have hm3 : (y : Int) < (x : Int) := by omega
                    have hm4 : ¬ (x : Int) < (y : Int) := by omega
                    clear hs6 hy1 hy2 hf6 he6 hf7 he7 hte hne hlt
                    as_aux_lemma =>
                      go_wp2_with fail
                      refine (qNear (fun b => lab5 b = [] ∧ b ≠ pm) _ n t K5 h5 f5 e5 WW x y wo HQ.out.qr hn8).mono ?_
                      rintro e w50 ⟨rfl, hb50⟩
                      have HQ50 := Lib.hid (HQ.out.below hb50)
                      have HB50 := Lib.hid (keep HB.out hb50)
                      have HC50 := Lib.hid hb50
                      clear hb50 HQ HB k0 k1 k2 k3 k4 k5
                      have k0 : World.cell? _ ⟨pm, 0, none⟩ = some (.int .i64 t) := HQ50.out.blk.cell 0
                      have k1 : World.cell? _ ⟨pm, 1, none⟩ = some (.slice (some AC) n cC) := HQ50.out.blk.cell 1
                      have k2 : World.cell? _ ⟨pm, 2, none⟩ = some (.slice AW WW.length cW) := HQ50.out.blk.cell 2
                      have k3 : World.cell? _ ⟨pm, 3, none⟩ = some (.slice (some AH) n cH) := HQ50.out.blk.cell 3
                      have k4 : World.cell? _ ⟨pm, 4, none⟩ = some (.slice (some AG) n cF) := HQ50.out.blk.cell 4
                      have k5 : World.cell? _ ⟨pm, 5, none⟩ = some (.slice (some AL) n cL) := HQ50.out.blk.cell 5
                      rw [HEN.out]
                      have cc1 := HCC.out _ HB50.out
                      go_wp2_with fail
                      have hcall := lfiCost lab5 A5 n t s5 x y cv w50 HQ50.out.an hn8 HI5.out
                      rw [HP5.out, HTE.out, HS6.out] at hcall
                      rw [errV_zero] at hcall
                      refine hcall.mono ?_
                      clear hcall
                      rintro e w51 ⟨rfl, hA51, hF51⟩
                      have HQ51 := Lib.hid (HQ50.out.turn hA51 HI6.out hF51)
                      have HBL51 := Lib.hid (hF51.below HB50.out.size HLO5.out)
                      have HB51 := Lib.hid (HB50.out.trans HBL51.out.1)
                      have HLO51 := Lib.hid HBL51.out.2
                      clear hA51 hF51 HQ50 HB50 HBL51 k0 k1 k2 k3 k4 k5
                      have k0 : World.cell? _ ⟨pm, 0, none⟩ = some (.int .i64 t) := HQ51.out.blk.cell 0
                      have k1 : World.cell? _ ⟨pm, 1, none⟩ = some (.slice (some AC) n cC) := HQ51.out.blk.cell 1
                      have k2 : World.cell? _ ⟨pm, 2, none⟩ = some (.slice AW WW.length cW) := HQ51.out.blk.cell 2
                      have k3 : World.cell? _ ⟨pm, 3, none⟩ = some (.slice (some AH) n cH) := HQ51.out.blk.cell 3
                      have k4 : World.cell? _ ⟨pm, 4, none⟩ = some (.slice (some AG) n cF) := HQ51.out.blk.cell 4
                      have k5 : World.cell? _ ⟨pm, 5, none⟩ = some (.slice (some AL) n cL) := HQ51.out.blk.cell 5
                      go_wp2_with fail
                      refine (err_nil 0 true ⟨fun _ => rfl, fun _ => rfl⟩ w51).mono ?_
                      rintro e w52 ⟨rfl, hb52⟩
                      have HQ52 := Lib.hid (HQ51.out.below hb52)
                      have HB52 := Lib.hid (keep HB51.out hb52)
                      have HC52 := Lib.hid hb52
                      clear hb52 HQ51 HB51 k0 k1 k2 k3 k4 k5
                      have k0 : World.cell? _ ⟨pm, 0, none⟩ = some (.int .i64 t) := HQ52.out.blk.cell 0
                      have k1 : World.cell? _ ⟨pm, 1, none⟩ = some (.slice (some AC) n cC) := HQ52.out.blk.cell 1
                      have k2 : World.cell? _ ⟨pm, 2, none⟩ = some (.slice AW WW.length cW) := HQ52.out.blk.cell 2
                      have k3 : World.cell? _ ⟨pm, 3, none⟩ = some (.slice (some AH) n cH) := HQ52.out.blk.cell 3
                      have k4 : World.cell? _ ⟨pm, 4, none⟩ = some (.slice (some AG) n cF) := HQ52.out.blk.cell 4
                      have k5 : World.cell? _ ⟨pm, 5, none⟩ = some (.slice (some AL) n cL) := HQ52.out.blk.cell 5
                      go_wp2_with fail
                      refine (copied_walk (fun b => lab5 b = [] ∧ b ≠ pm) _ n t K5 h5 f5 e5 WW w52 HQ52.out.qr hn1 hn8 (by have := HY5.out.len HI5.out hn8; omega)).mono ?_
                      rintro e w53 ⟨d53, rfl, hcp53, hb53⟩
                      have HL53 := Lib.hid (HQ52.out.an.free)
                      have HPL53 := Lib.hid (HQ52.out.blk.lt)
                      have HQ53 := Lib.hid (HQ52.out.below hb53)
                      have HB53 := Lib.hid (keep HB52.out hb53)
                      have HC53 := Lib.hid hb53
                      clear hb53 HQ52 HB52
                      try clear k0 k1 k2 k3 k4 k5
                      have k0 : World.cell? _ ⟨pm, 0, none⟩ = some (.int .i64 t) := HQ53.out.blk.cell 0
                      have k1 : World.cell? _ ⟨pm, 1, none⟩ = some (.slice (some AC) n cC) := HQ53.out.blk.cell 1
                      have k2 : World.cell? _ ⟨pm, 2, none⟩ = some (.slice AW WW.length cW) := HQ53.out.blk.cell 2
                      have k3 : World.cell? _ ⟨pm, 3, none⟩ = some (.slice (some AH) n cH) := HQ53.out.blk.cell 3
                      have k4 : World.cell? _ ⟨pm, 4, none⟩ = some (.slice (some AG) n cF) := HQ53.out.blk.cell 4
                      have k5 : World.cell? _ ⟨pm, 5, none⟩ = some (.slice (some AL) n cL) := HQ53.out.blk.cell 5
                      obtain ⟨AV, qV, eV, -, -⟩ := (CN.of hcp53).way.lnk
                      have hval : d53.val n t = #[.int .i64 t, .slice (some ⟨d53.gC, 0, none⟩) n d53.cC, .slice AV WW.length qV, .slice (some ⟨d53.gH, 0, none⟩) n d53.cH, .slice (some ⟨d53.gF, 0, none⟩) n d53.cF, .slice (some ⟨d53.gL, 0, none⟩) n d53.cL] := by
                        unfold CD.val
                        rw [eV]
                      have hcn := CN.of hcp53
                      rw [eV] at hcn
                      rw [hval]
                      have HCN := Lib.hid hcn
                      clear hcp53 hval eV hcn
                      have hvl : QR (fun b => _ ≤ b) _ #[.int .i64 t, .slice (some ⟨d53.gC, 0, none⟩) n d53.cC, .slice AV WW.length qV, .slice (some ⟨d53.gH, 0, none⟩) n d53.cH, .slice (some ⟨d53.gF, 0, none⟩) n d53.cF, .slice (some ⟨d53.gL, 0, none⟩) n d53.cL] n t K5 h5 f5 e5 WW := HCN.out.reads
                      have hBp : pm < _ := Nat.lt_of_lt_of_le HPL53.out (Nat.le_add_right _ 2)
                      have hcn2 : CN _ n t K5 h5 f5 e5 WW d53 (.slice AV WW.length qV) (World.setRow w53 pm #[.int .i64 t, .slice (some ⟨d53.gC, 0, none⟩) n d53.cC, .slice AV WW.length qV, .slice (some ⟨d53.gH, 0, none⟩) n d53.cH, .slice (some ⟨d53.gF, 0, none⟩) n d53.cF, .slice (some ⟨d53.gL, 0, none⟩) n d53.cL]) := HCN.out.same fun b hb _ => setRow_other _ pm b _ (by omega)
                      have hq54 := HQ53.out.put hvl hBp (fun b hb => HL53.out b (by omega))
                      have HP54 := Lib.hid HQ53.out.blk
                      have HB54 : Hid (Below w.heap.size w (World.setRow _ pm _)) := below_setRow0 HB53.out HPM.out #[.int .i64 t, .slice (some ⟨d53.gC, 0, none⟩) n d53.cC, .slice AV WW.length qV, .slice (some ⟨d53.gH, 0, none⟩) n d53.cH, .slice (some ⟨d53.gF, 0, none⟩) n d53.cF, .slice (some ⟨d53.gL, 0, none⟩) n d53.cL]
                      have HQ54 := Lib.hid hq54
                      clear hq54 HQ53 HB53
                      try clear k0 k1 k2 k3 k4 k5
                      have k0 : World.cell? _ ⟨pm, 0, none⟩ = some (.int .i64 t) := HQ54.out.blk.cell 0
                      have k1 : World.cell? _ ⟨pm, 1, none⟩ = some (.slice (some ⟨d53.gC, 0, none⟩) n d53.cC) := HQ54.out.blk.cell 1
                      have k2 : World.cell? _ ⟨pm, 2, none⟩ = some (.slice AV WW.length qV) := HQ54.out.blk.cell 2
                      have k3 : World.cell? _ ⟨pm, 3, none⟩ = some (.slice (some ⟨d53.gH, 0, none⟩) n d53.cH) := HQ54.out.blk.cell 3
                      have k4 : World.cell? _ ⟨pm, 4, none⟩ = some (.slice (some ⟨d53.gF, 0, none⟩) n d53.cF) := HQ54.out.blk.cell 4
                      have k5 : World.cell? _ ⟨pm, 5, none⟩ = some (.slice (some ⟨d53.gL, 0, none⟩) n d53.cL) := HQ54.out.blk.cell 5
                      go_wp2_with (refine wpList_store_row rfl 37 (.tmp 20) (.tmp 201) rfl pm #[.int .i64 t, .slice (some ⟨d53.gC, 0, none⟩) n d53.cC, .slice AV WW.length qV, .slice (some ⟨d53.gH, 0, none⟩) n d53.cH, .slice (some ⟨d53.gF, 0, none⟩) n d53.cF, .slice (some ⟨d53.gL, 0, none⟩) n d53.cL] rfl rfl _ _ HP54.out (by kernel_rfl) rfl (by simp [Value.oneCell']) ?_)
                      obtain ⟨w55, hw55⟩ : ∃ w', World.setRow w53 pm #[.int .i64 t, .slice (some ⟨d53.gC, 0, none⟩) n d53.cC, .slice AV WW.length qV, .slice (some ⟨d53.gH, 0, none⟩) n d53.cH, .slice (some ⟨d53.gF, 0, none⟩) n d53.cF, .slice (some ⟨d53.gL, 0, none⟩) n d53.cL] = w' := ⟨_, rfl⟩
                      rw [hw55] at HQ54 HB54 k0 k1 k2 k3 k4 k5 hcn2 ⊢
                      clear hw55 HP54
                      have HCN2 := Lib.hid hcn2
                      clear hcn2 hvl HCN
                      have rR := HCN2.out.t1.row.cell hx
                      have rC := (HCN2.out.t1.rows x hx).2.2.cell hy
                      have rF := (HCN2.out.t1.rows x hx).2.2.frozen y
                      have hg1 := (HCN2.out.t1.rows x hx).1
                      have cc1 := HCC.out _ HB54.out
                      have hcs56 := HCN2.out.setCost hx y cv
                      rw [HK6.out] at hcs56
                      have hvs56 : QR (fun b => _ ≤ b) (World.setCell w55 ⟨d53.BC x, y, none⟩ (.int .i64 cv)) #[.int .i64 t, .slice (some ⟨d53.gC, 0, none⟩) n d53.cC, .slice AV WW.length qV, .slice (some ⟨d53.gH, 0, none⟩) n d53.cH, .slice (some ⟨d53.gF, 0, none⟩) n d53.cF, .slice (some ⟨d53.gL, 0, none⟩) n d53.cL] n t K6 h5 f5 e5 WW := hcs56.reads
                      have hqs56 := (HQ54.out.cell hvs56 hBp hg1 (fun b hb => HL53.out b (by omega))).below (Below.refl _ _).drew
                      have hbs56 : Below w.heap.size w (World.setCell w55 ⟨d53.BC x, y, none⟩ (.int .i64 cv)).drew := (HB54.out.setCell (by show w.heap.size ≤ d53.BC x; have := HPM.out; omega) _).drew
                      have hcd56 : CN _ n t K6 h5 f5 e5 WW d53 (.slice AV WW.length qV) (World.setCell w55 ⟨d53.BC x, y, none⟩ (.int .i64 cv)).drew := hcs56.same fun _ _ _ => rfl
                      have HQ56 := Lib.hid hqs56
                      have HB56 := Lib.hid hbs56
                      have HD56 := Lib.hid hcd56
                      clear hcs56 hvs56 hqs56 hbs56 hcd56
                      try simp only [Act.put]
                      refine wp_region_quiet_tail 11 (by kernel_rfl) (by kernel_rfl) ?_
                      simp only [List.take_succ_cons, List.take_zero, List.drop_succ_cons, List.drop_zero]
                      repeat (go_big_quiet_step (fail))
                      refine wpQuiet_nil ?_
                      clear k0 k1 k2 k3 k4 k5
                      have k0 : World.cell? _ ⟨pm, 0, none⟩ = some (.int .i64 t) := HQ56.out.blk.cell 0
                      have k1 : World.cell? _ ⟨pm, 1, none⟩ = some (.slice (some ⟨d53.gC, 0, none⟩) n d53.cC) := HQ56.out.blk.cell 1
                      have k2 : World.cell? _ ⟨pm, 2, none⟩ = some (.slice AV WW.length qV) := HQ56.out.blk.cell 2
                      have k3 : World.cell? _ ⟨pm, 3, none⟩ = some (.slice (some ⟨d53.gH, 0, none⟩) n d53.cH) := HQ56.out.blk.cell 3
                      have k4 : World.cell? _ ⟨pm, 4, none⟩ = some (.slice (some ⟨d53.gF, 0, none⟩) n d53.cF) := HQ56.out.blk.cell 4
                      have k5 : World.cell? _ ⟨pm, 5, none⟩ = some (.slice (some ⟨d53.gL, 0, none⟩) n d53.cL) := HQ56.out.blk.cell 5
                      go_wp2_with fail
                      clear rR rC rF cc1 hg1
                      obtain ⟨w57, hw57⟩ : ∃ w', (World.setCell w55 ⟨d53.BC x, y, none⟩ (.int .i64 cv)).drew = w' := ⟨_, rfl⟩
                      rw [hw57] at HQ56 HB56 HD56 k0 k1 k2 k3 k4 k5 ⊢
                      clear hw57
                      have rR := HD56.out.t1.row.cell hy
                      have rC := (HD56.out.t1.rows y hy).2.2.cell hx
                      have rF := (HD56.out.t1.rows y hy).2.2.frozen x
                      have hg1 := (HD56.out.t1.rows y hy).1
                      have cc1 := HCC.out _ HB56.out
                      have hcs58 := HD56.out.setCost hy x cv
                      rw [HK7.out] at hcs58
                      have hvs58 : QR (fun b => _ ≤ b) (World.setCell w57 ⟨d53.BC y, x, none⟩ (.int .i64 cv)) #[.int .i64 t, .slice (some ⟨d53.gC, 0, none⟩) n d53.cC, .slice AV WW.length qV, .slice (some ⟨d53.gH, 0, none⟩) n d53.cH, .slice (some ⟨d53.gF, 0, none⟩) n d53.cF, .slice (some ⟨d53.gL, 0, none⟩) n d53.cL] n t K7 h5 f5 e5 WW := hcs58.reads
                      have hqs58 := (HQ56.out.cell hvs58 hBp hg1 (fun b hb => HL53.out b (by omega))).below (Below.refl _ _).drew
                      have hbs58 : Below w.heap.size w (World.setCell w57 ⟨d53.BC y, x, none⟩ (.int .i64 cv)).drew := (HB56.out.setCell (by show w.heap.size ≤ d53.BC y; have := HPM.out; omega) _).drew
                      have hcd58 : CN _ n t K7 h5 f5 e5 WW d53 (.slice AV WW.length qV) (World.setCell w57 ⟨d53.BC y, x, none⟩ (.int .i64 cv)).drew := hcs58.same fun _ _ _ => rfl
                      have HQ58 := Lib.hid hqs58
                      have HB58 := Lib.hid hbs58
                      have HD58 := Lib.hid hcd58
                      clear hcs58 hvs58 hqs58 hbs58 hcd58
                      try simp only [Act.put]
                      refine wp_region_quiet_tail 11 (by kernel_rfl) (by kernel_rfl) ?_
                      simp only [List.take_succ_cons, List.take_zero, List.drop_succ_cons, List.drop_zero]
                      repeat (go_big_quiet_step (fail))
                      refine wpQuiet_nil ?_
                      clear k0 k1 k2 k3 k4 k5
                      have k0 : World.cell? _ ⟨pm, 0, none⟩ = some (.int .i64 t) := HQ58.out.blk.cell 0
                      have k1 : World.cell? _ ⟨pm, 1, none⟩ = some (.slice (some ⟨d53.gC, 0, none⟩) n d53.cC) := HQ58.out.blk.cell 1
                      have k2 : World.cell? _ ⟨pm, 2, none⟩ = some (.slice AV WW.length qV) := HQ58.out.blk.cell 2
                      have k3 : World.cell? _ ⟨pm, 3, none⟩ = some (.slice (some ⟨d53.gH, 0, none⟩) n d53.cH) := HQ58.out.blk.cell 3
                      have k4 : World.cell? _ ⟨pm, 4, none⟩ = some (.slice (some ⟨d53.gF, 0, none⟩) n d53.cF) := HQ58.out.blk.cell 4
                      have k5 : World.cell? _ ⟨pm, 5, none⟩ = some (.slice (some ⟨d53.gL, 0, none⟩) n d53.cL) := HQ58.out.blk.cell 5
                      go_wp2_with fail
                      clear rR rC rF cc1 hg1
                      obtain ⟨w59, hw59⟩ : ∃ w', (World.setCell w57 ⟨d53.BC y, x, none⟩ (.int .i64 cv)).drew = w' := ⟨_, rfl⟩
                      rw [hw59] at HQ58 HB58 HD58 k0 k1 k2 k3 k4 k5 ⊢
                      clear hw59
                      refine (qAnew (fun b => lab5 b = [] ∧ b ≠ pm) _ n t K7 h5 f5 e5 WW y w59 HQ58.out.qr hn1 hn8 (by have := HY5.out.len HI5.out hn8; omega) hy HKR.out HHR.out).mono ?_
                      rintro e w60 ⟨v60, rfl, hv60, hb60⟩
                      have HL60 := Lib.hid (HQ58.out.an.free)
                      have HPL60 := Lib.hid (HQ58.out.blk.lt)
                      have HQ60 := Lib.hid (HQ58.out.below hb60)
                      have HB60 := Lib.hid (keep HB58.out hb60)
                      have HC60 := Lib.hid hb60
                      clear hb60 HQ58 HB58
                      try clear k0 k1 k2 k3 k4 k5
                      rw [HF6.out, HE6.out] at hv60
                      go_wp2_with fail
                      refine (qAnew (fun b => _ ≤ b) _ n t K7 h5 f6 e6 WW x w60 hv60 hn1 hn8 (by have := HY5.out.len HI5.out hn8; omega) hx HKR.out HHR.out).mono ?_
                      rintro e w61 ⟨v61, rfl, hv61, hb61⟩
                      have HL61 := Lib.hid (HQ60.out.an.free)
                      have HPL61 := Lib.hid (HQ60.out.blk.lt)
                      have HQ61 := Lib.hid (HQ60.out.below hb61)
                      have HB61 := Lib.hid (keep HB60.out hb61)
                      have HC61 := Lib.hid hb61
                      clear hb61 HQ60 HB60
                      try clear k0 k1 k2 k3 k4 k5
                      rw [HF7.out, HE7.out] at hv61
                      have hvv := hv61
                      obtain ⟨ACz, cCz, AWz, cWz, AHz, cHz, AGz, cFz, ALz, cLz, rfl, -⟩ := hvv
                      have hq62 := HQ61.out.put hv61 HPL61.out HL61.out
                      have HP62 := Lib.hid HQ61.out.blk
                      have HB62 : Hid (Below w.heap.size w (World.setRow _ pm _)) := below_setRow0 HB61.out HPM.out #[.int .i64 t, .slice (some ACz) n cCz, .slice AWz WW.length cWz, .slice (some AHz) n cHz, .slice (some AGz) n cFz, .slice (some ALz) n cLz]
                      have HQ62 := Lib.hid hq62
                      clear hq62 HQ61 HB61
                      try clear k0 k1 k2 k3 k4 k5
                      have k0 : World.cell? _ ⟨pm, 0, none⟩ = some (.int .i64 t) := HQ62.out.blk.cell 0
                      have k1 : World.cell? _ ⟨pm, 1, none⟩ = some (.slice (some ACz) n cCz) := HQ62.out.blk.cell 1
                      have k2 : World.cell? _ ⟨pm, 2, none⟩ = some (.slice AWz WW.length cWz) := HQ62.out.blk.cell 2
                      have k3 : World.cell? _ ⟨pm, 3, none⟩ = some (.slice (some AHz) n cHz) := HQ62.out.blk.cell 3
                      have k4 : World.cell? _ ⟨pm, 4, none⟩ = some (.slice (some AGz) n cFz) := HQ62.out.blk.cell 4
                      have k5 : World.cell? _ ⟨pm, 5, none⟩ = some (.slice (some ALz) n cLz) := HQ62.out.blk.cell 5
                      go_wp2_with (refine wpList_store_row rfl 37 (.tmp 20) (.tmp 232) rfl pm #[.int .i64 t, .slice (some ACz) n cCz, .slice AWz WW.length cWz, .slice (some AHz) n cHz, .slice (some AGz) n cFz, .slice (some ALz) n cLz] rfl rfl _ _ HP62.out (by kernel_rfl) rfl (by simp [Value.oneCell']) ?_)
                      obtain ⟨w63, hw63⟩ : ∃ w', World.setRow w61 pm #[.int .i64 t, .slice (some ACz) n cCz, .slice AWz WW.length cWz, .slice (some AHz) n cHz, .slice (some AGz) n cFz, .slice (some ALz) n cLz] = w' := ⟨_, rfl⟩
                      rw [hw63] at HQ62 HB62 k0 k1 k2 k3 k4 k5 ⊢
                      clear hw63 HP62
                      go_wp2_with fail
                      have HQI := HQ62
                      have HBI := HB62
                      clear HQ62 HB62
                      clear k0 k1 k2 k3 k4 k5
                      go_loopw [26] (fun q wi => ∃ i : Nat, i ≤ n ∧ q = .int .i64 i ∧ QL wi lab5 A5 pm #[.int .i64 t, .slice (some ACz) n cCz, .slice AWz WW.length cWz, .slice (some AHz) n cHz, .slice (some AGz) n cFz, .slice (some ALz) n cLz] n t s6 K7 h5 f7 e7 WW ∧ Below w.heap.size w wi) (fun q _ => n - (intOf q).toNat)
                      case atStart => exact ⟨0, by omega, rfl, HQI.out, HBI.out⟩
                      case round =>
                        obtain ⟨i, hi, rfl, hqi, hbi⟩ := hrel
                        clear HQI HBI
                        have HQJ := Lib.hid hqi
                        have HBJ := Lib.hid hbi
                        clear hqi hbi
                        by_cases hin7 : i < n
                        · have hin7' : (i : Int) < n := by omega
                          obtain ⟨dd, hdd⟩ : ∃ dd, s6.f i = dd := ⟨_, rfl⟩
                          obtain ⟨de, hde⟩ : ∃ de, s6.e i = de := ⟨_, rfl⟩
                          have hc1 := lfiDist_at HQJ.out.an hn8 i i rfl hin7
                          have hc2 := lfiLeast_at HQJ.out.an hn8 i i rfl hin7
                          have hc3 := lfiNexts lab5 A5 n t s6 i i rfl wr HQJ.out.an hn8 hin7
                          rw [HP5.out] at hc1 hc2 hc3
                          rw [hdd] at hc1
                          rw [hde] at hc2
                          have HD1 := Lib.hid hc1
                          have HD2 := Lib.hid hc2
                          have HD3 := Lib.hid hc3
                          have HDD := Lib.hid hdd
                          have HDE := Lib.hid hde
                          clear hc1 hc2 hc3 hdd hde
                          go_wp2_with fail
                          refine HD1.out.mono ?_
                          rintro e w81 ⟨rfl, h8⟩
                          subst w81
                          clear HD1
                          go_wp2_with fail
                          refine HD2.out.mono ?_
                          rintro e w82 ⟨rfl, h8⟩
                          subst w82
                          clear HD2
                          go_wp2_with fail
                          refine HD3.out.mono ?_
                          rintro e w83 ⟨u83, rfl, ho83, hb83⟩
                          have hnx := HY6.out.nexts_is (t := t) i
                          obtain ⟨ll, hll⟩ : ∃ ll, pickL (nxB n t K7 h5 e7 i) n = ll := ⟨_, rfl⟩
                          have hl8 : ll.length ≤ n := by rw [← hll]; exact pickL_len _ _
                          rw [← hnx, hll] at ho83
                          obtain ⟨Au, cu, rfl, hvu⟩ := ho83.vec
                          have HVU := Lib.hid hvu
                          have HQ83 := Lib.hid (HQJ.out.below hb83)
                          have HB83 := Lib.hid (keep HBJ.out hb83)
                          have HLL := Lib.hid hll
                          clear ho83 hb83 hvu hnx hll HQJ HBJ
                          have k0 : World.cell? _ ⟨pm, 0, none⟩ = some (.int .i64 t) := HQ83.out.blk.cell 0
                          have k1 : World.cell? _ ⟨pm, 1, none⟩ = some (.slice (some ACz) n cCz) := HQ83.out.blk.cell 1
                          have k2 : World.cell? _ ⟨pm, 2, none⟩ = some (.slice AWz WW.length cWz) := HQ83.out.blk.cell 2
                          have k3 : World.cell? _ ⟨pm, 3, none⟩ = some (.slice (some AHz) n cHz) := HQ83.out.blk.cell 3
                          have k4 : World.cell? _ ⟨pm, 4, none⟩ = some (.slice (some AGz) n cFz) := HQ83.out.blk.cell 4
                          have k5 : World.cell? _ ⟨pm, 5, none⟩ = some (.slice (some ALz) n cLz) := HQ83.out.blk.cell 5
                          go_wp2_with fail
                          refine (qNexts (fun b => lab5 b = [] ∧ b ≠ pm) _ n t K7 h5 f7 e7 WW i w83 HQ83.out.qr hn8 hin7).mono ?_
                          rintro e w84 ⟨u84, rfl, ho84, hb84⟩
                          rw [HLL.out] at ho84
                          obtain ⟨Aq, cq, rfl, hvq⟩ := ho84.vec
                          have HVQ := Lib.hid hvq
                          have HVU4 := Lib.hid (HVU.out.keep hb84)
                          have HQ84 := Lib.hid (HQ83.out.below hb84)
                          have HB84 := Lib.hid (keep HB83.out hb84)
                          clear ho84 hb84 hvq HQ83 HB83 HVU k0 k1 k2 k3 k4 k5
                          go_wp2_with fail
                          refine (ints_walk Au Aq ll.length ll.length cu cq (atL ll) (atL ll) w84 HVU4.out HVQ.out (by omega) (by omega) true ⟨fun _ => ⟨rfl, fun _ _ => rfl⟩, fun _ => rfl⟩).mono ?_
                          rintro e w85 ⟨rfl, q85, hw85⟩
                          have hb85 : Below w84.heap.size w84 w85 := by subst hw85; exact below_drewN (Below.refl _ _) q85
                          have HQ85 := Lib.hid (HQ84.out.below hb85)
                          have HB85 := Lib.hid (keep HB84.out hb85)
                          clear hw85 hb85 HQ84 HB84 HVU4 HVQ
                          obtain ⟨c8, c9⟩ := HQ85.out.qr.farAt2 hin7
                          rw [HY6.out.f, HDD.out] at c8
                          rw [HY6.out.e, HDE.out] at c9
                          have k0 : World.cell? _ ⟨pm, 0, none⟩ = some (.int .i64 t) := HQ85.out.blk.cell 0
                          have k1 : World.cell? _ ⟨pm, 1, none⟩ = some (.slice (some ACz) n cCz) := HQ85.out.blk.cell 1
                          have k2 : World.cell? _ ⟨pm, 2, none⟩ = some (.slice AWz WW.length cWz) := HQ85.out.blk.cell 2
                          have k3 : World.cell? _ ⟨pm, 3, none⟩ = some (.slice (some AHz) n cHz) := HQ85.out.blk.cell 3
                          have k4 : World.cell? _ ⟨pm, 4, none⟩ = some (.slice (some AGz) n cFz) := HQ85.out.blk.cell 4
                          have k5 : World.cell? _ ⟨pm, 5, none⟩ = some (.slice (some ALz) n cLz) := HQ85.out.blk.cell 5
                          clear k0 k1 k2 k3
                          go_wp2_with fail
                          go_roundw
                          case rel => exact ⟨i + 1, by omega, by go_num, HQ85.out, HB85.out⟩
                          case measure => simp [intOf]; omega
                        · have hid7 : decide ((i : Int) < n) = false := decide_eq_false (by omega)
                          have hid8 : decide (n ≤ i) = true := decide_eq_true (by omega)
                          go_wp2_with fail
                          go_roundw
                          case rel => exact ⟨k + 1, by omega, by go_num, ⟨lab5, A5, s6, K7, h5, f7, e7, WW, _, HP5.out, HQJ.out, HY6.out, HLO51.out, HSC.out⟩, HBJ.out⟩
                          case measure => simp [intOf]; omega
            · have hte : s5.costE n av bv cv = en := by
                unfold LS.costE
                rw [if_neg (fun hc => hn0 (hens.symm.trans hc.1))]
                exact hens
              have HTE := Lib.hid hte
              have HS6 : Hid (s5.cost n t av bv cv = s5) := by
                unfold LS.cost
                rw [hte, if_neg (by omega)]
                exact Lib.hid rfl
              obtain ⟨s6, hs66⟩ : ∃ s6, s5 = s6 := ⟨_, rfl⟩
              have HI6 : Hid (LInv n t s6) := hs66 ▸ HI5.out
              have HY6 : Hid (SynL n s6 K5 h5 f5 e5 WW) := hs66 ▸ HY5.out
              have HSC : Hid (s6.c ≤ k + 1) := hs66 ▸ Nat.le_succ_of_le HSC0.out
              have HS6' : Hid (s5.cost n t av bv cv = s6) := hs66 ▸ HS6.out
              clear HS6 hs66
              have HS6 := HS6'
              clear HS6'
              have hnb : (en == 0) = false := beq_false_of_ne hn0
              have HT0 := Lib.hid hn0
              clear hte hens hen hn0
              as_aux_lemma =>
                go_wp2_with fail
                refine (qNear (fun b => lab5 b = [] ∧ b ≠ pm) _ n t K5 h5 f5 e5 WW av bv wo HQ.out.qr hn8).mono ?_
                rintro e w64 ⟨rfl, hb64⟩
                have HQ64 := Lib.hid (HQ.out.below hb64)
                have HB64 := Lib.hid (keep HB.out hb64)
                have HC64 := Lib.hid hb64
                clear hb64 HQ HB k0 k1 k2 k3 k4 k5
                have k0 : World.cell? _ ⟨pm, 0, none⟩ = some (.int .i64 t) := HQ64.out.blk.cell 0
                have k1 : World.cell? _ ⟨pm, 1, none⟩ = some (.slice (some AC) n cC) := HQ64.out.blk.cell 1
                have k2 : World.cell? _ ⟨pm, 2, none⟩ = some (.slice AW WW.length cW) := HQ64.out.blk.cell 2
                have k3 : World.cell? _ ⟨pm, 3, none⟩ = some (.slice (some AH) n cH) := HQ64.out.blk.cell 3
                have k4 : World.cell? _ ⟨pm, 4, none⟩ = some (.slice (some AG) n cF) := HQ64.out.blk.cell 4
                have k5 : World.cell? _ ⟨pm, 5, none⟩ = some (.slice (some AL) n cL) := HQ64.out.blk.cell 5
                rw [HEN.out]
                have cc1 := HCC.out _ HB64.out
                go_wp2_with fail
                have hcall := lfiCost lab5 A5 n t s5 av bv cv w64 HQ64.out.an hn8 HI5.out
                rw [HP5.out, HTE.out, HS6.out] at hcall
                simp only [errV, HT0.out, if_false] at hcall
                refine hcall.mono ?_
                clear hcall
                rintro e w65 ⟨rfl, hA65, hF65⟩
                have HQ65 := Lib.hid (HQ64.out.turn hA65 HI6.out hF65)
                have HBL65 := Lib.hid (hF65.below HB64.out.size HLO5.out)
                have HB65 := Lib.hid (HB64.out.trans HBL65.out.1)
                have HLO65 := Lib.hid HBL65.out.2
                clear hA65 hF65 HQ64 HB64 HBL65 k0 k1 k2 k3 k4 k5
                have k0 : World.cell? _ ⟨pm, 0, none⟩ = some (.int .i64 t) := HQ65.out.blk.cell 0
                have k1 : World.cell? _ ⟨pm, 1, none⟩ = some (.slice (some AC) n cC) := HQ65.out.blk.cell 1
                have k2 : World.cell? _ ⟨pm, 2, none⟩ = some (.slice AW WW.length cW) := HQ65.out.blk.cell 2
                have k3 : World.cell? _ ⟨pm, 3, none⟩ = some (.slice (some AH) n cH) := HQ65.out.blk.cell 3
                have k4 : World.cell? _ ⟨pm, 4, none⟩ = some (.slice (some AG) n cF) := HQ65.out.blk.cell 4
                have k5 : World.cell? _ ⟨pm, 5, none⟩ = some (.slice (some AL) n cL) := HQ65.out.blk.cell 5
                go_wp2_with fail
                refine (err_no en en true ⟨fun _ => rfl, fun _ => rfl⟩ w65 (HET.out.keep HB65.out)).mono ?_
                rintro e w66 ⟨rfl, hb66⟩
                have HQ66 := Lib.hid (HQ65.out.below hb66)
                have HB66 := Lib.hid (keep HB65.out hb66)
                have HC66 := Lib.hid hb66
                clear hb66 HQ65 HB65 k0 k1 k2 k3 k4 k5
                have k0 : World.cell? _ ⟨pm, 0, none⟩ = some (.int .i64 t) := HQ66.out.blk.cell 0
                have k1 : World.cell? _ ⟨pm, 1, none⟩ = some (.slice (some AC) n cC) := HQ66.out.blk.cell 1
                have k2 : World.cell? _ ⟨pm, 2, none⟩ = some (.slice AW WW.length cW) := HQ66.out.blk.cell 2
                have k3 : World.cell? _ ⟨pm, 3, none⟩ = some (.slice (some AH) n cH) := HQ66.out.blk.cell 3
                have k4 : World.cell? _ ⟨pm, 4, none⟩ = some (.slice (some AG) n cF) := HQ66.out.blk.cell 4
                have k5 : World.cell? _ ⟨pm, 5, none⟩ = some (.slice (some AL) n cL) := HQ66.out.blk.cell 5
                go_wp2_with fail
                have HQI := HQ66
                have HBI := HB66
                clear HQ66 HB66
                clear k0 k1 k2 k3 k4 k5
                go_loopw [26] (fun q wi => ∃ i : Nat, i ≤ n ∧ q = .int .i64 i ∧ QL wi lab5 A5 pm #[.int .i64 t, .slice (some AC) n cC, .slice AW WW.length cW, .slice (some AH) n cH, .slice (some AG) n cF, .slice (some AL) n cL] n t s6 K5 h5 f5 e5 WW ∧ Below w.heap.size w wi) (fun q _ => n - (intOf q).toNat)
                case atStart => exact ⟨0, by omega, rfl, HQI.out, HBI.out⟩
                case round =>
                  obtain ⟨i, hi, rfl, hqi, hbi⟩ := hrel
                  clear HQI HBI
                  have HQJ := Lib.hid hqi
                  have HBJ := Lib.hid hbi
                  clear hqi hbi
                  by_cases hin7 : i < n
                  · have hin7' : (i : Int) < n := by omega
                    obtain ⟨dd, hdd⟩ : ∃ dd, s6.f i = dd := ⟨_, rfl⟩
                    obtain ⟨de, hde⟩ : ∃ de, s6.e i = de := ⟨_, rfl⟩
                    have hc1 := lfiDist_at HQJ.out.an hn8 i i rfl hin7
                    have hc2 := lfiLeast_at HQJ.out.an hn8 i i rfl hin7
                    have hc3 := lfiNexts lab5 A5 n t s6 i i rfl wr HQJ.out.an hn8 hin7
                    rw [HP5.out] at hc1 hc2 hc3
                    rw [hdd] at hc1
                    rw [hde] at hc2
                    have HD1 := Lib.hid hc1
                    have HD2 := Lib.hid hc2
                    have HD3 := Lib.hid hc3
                    have HDD := Lib.hid hdd
                    have HDE := Lib.hid hde
                    clear hc1 hc2 hc3 hdd hde
                    go_wp2_with fail
                    refine HD1.out.mono ?_
                    rintro e w81 ⟨rfl, h8⟩
                    subst w81
                    clear HD1
                    go_wp2_with fail
                    refine HD2.out.mono ?_
                    rintro e w82 ⟨rfl, h8⟩
                    subst w82
                    clear HD2
                    go_wp2_with fail
                    refine HD3.out.mono ?_
                    rintro e w83 ⟨u83, rfl, ho83, hb83⟩
                    have hnx := HY6.out.nexts_is (t := t) i
                    obtain ⟨ll, hll⟩ : ∃ ll, pickL (nxB n t K5 h5 e5 i) n = ll := ⟨_, rfl⟩
                    have hl8 : ll.length ≤ n := by rw [← hll]; exact pickL_len _ _
                    rw [← hnx, hll] at ho83
                    obtain ⟨Au, cu, rfl, hvu⟩ := ho83.vec
                    have HVU := Lib.hid hvu
                    have HQ83 := Lib.hid (HQJ.out.below hb83)
                    have HB83 := Lib.hid (keep HBJ.out hb83)
                    have HLL := Lib.hid hll
                    clear ho83 hb83 hvu hnx hll HQJ HBJ
                    have k0 : World.cell? _ ⟨pm, 0, none⟩ = some (.int .i64 t) := HQ83.out.blk.cell 0
                    have k1 : World.cell? _ ⟨pm, 1, none⟩ = some (.slice (some AC) n cC) := HQ83.out.blk.cell 1
                    have k2 : World.cell? _ ⟨pm, 2, none⟩ = some (.slice AW WW.length cW) := HQ83.out.blk.cell 2
                    have k3 : World.cell? _ ⟨pm, 3, none⟩ = some (.slice (some AH) n cH) := HQ83.out.blk.cell 3
                    have k4 : World.cell? _ ⟨pm, 4, none⟩ = some (.slice (some AG) n cF) := HQ83.out.blk.cell 4
                    have k5 : World.cell? _ ⟨pm, 5, none⟩ = some (.slice (some AL) n cL) := HQ83.out.blk.cell 5
                    go_wp2_with fail
                    refine (qNexts (fun b => lab5 b = [] ∧ b ≠ pm) _ n t K5 h5 f5 e5 WW i w83 HQ83.out.qr hn8 hin7).mono ?_
                    rintro e w84 ⟨u84, rfl, ho84, hb84⟩
                    rw [HLL.out] at ho84
                    obtain ⟨Aq, cq, rfl, hvq⟩ := ho84.vec
                    have HVQ := Lib.hid hvq
                    have HVU4 := Lib.hid (HVU.out.keep hb84)
                    have HQ84 := Lib.hid (HQ83.out.below hb84)
                    have HB84 := Lib.hid (keep HB83.out hb84)
                    clear ho84 hb84 hvq HQ83 HB83 HVU k0 k1 k2 k3 k4 k5
                    go_wp2_with fail
                    refine (ints_walk Au Aq ll.length ll.length cu cq (atL ll) (atL ll) w84 HVU4.out HVQ.out (by omega) (by omega) true ⟨fun _ => ⟨rfl, fun _ _ => rfl⟩, fun _ => rfl⟩).mono ?_
                    rintro e w85 ⟨rfl, q85, hw85⟩
                    have hb85 : Below w84.heap.size w84 w85 := by subst hw85; exact below_drewN (Below.refl _ _) q85
                    have HQ85 := Lib.hid (HQ84.out.below hb85)
                    have HB85 := Lib.hid (keep HB84.out hb85)
                    clear hw85 hb85 HQ84 HB84 HVU4 HVQ
                    obtain ⟨c8, c9⟩ := HQ85.out.qr.farAt2 hin7
                    rw [HY6.out.f, HDD.out] at c8
                    rw [HY6.out.e, HDE.out] at c9
                    have k0 : World.cell? _ ⟨pm, 0, none⟩ = some (.int .i64 t) := HQ85.out.blk.cell 0
                    have k1 : World.cell? _ ⟨pm, 1, none⟩ = some (.slice (some AC) n cC) := HQ85.out.blk.cell 1
                    have k2 : World.cell? _ ⟨pm, 2, none⟩ = some (.slice AW WW.length cW) := HQ85.out.blk.cell 2
                    have k3 : World.cell? _ ⟨pm, 3, none⟩ = some (.slice (some AH) n cH) := HQ85.out.blk.cell 3
                    have k4 : World.cell? _ ⟨pm, 4, none⟩ = some (.slice (some AG) n cF) := HQ85.out.blk.cell 4
                    have k5 : World.cell? _ ⟨pm, 5, none⟩ = some (.slice (some AL) n cL) := HQ85.out.blk.cell 5
                    clear k0 k1 k2 k3
                    go_wp2_with fail
                    go_roundw
                    case rel => exact ⟨i + 1, by omega, by go_num, HQ85.out, HB85.out⟩
                    case measure => simp [intOf]; omega
                  · have hid7 : decide ((i : Int) < n) = false := decide_eq_false (by omega)
                    have hid8 : decide (n ≤ i) = true := decide_eq_true (by omega)
                    go_wp2_with fail
                    go_roundw
                    case rel => exact ⟨k + 1, by omega, by go_num, ⟨lab5, A5, s6, K5, h5, f5, e5, WW, _, HP5.out, HQJ.out, HY6.out, HLO65.out, HSC.out⟩, HBJ.out⟩
                    case measure => simp [intOf]; omega
      · have hc1 := lfiDist lab5 A5 n t s5 n wo HQ.out.an hn8
        have hc2 := lfiLeast lab5 A5 n t s5 (-1) wo HQ.out.an hn8
        have hc3 := lfiNexts_bad lab5 A5 n t s5 n wo HQ.out.an hn8 (.inr (by omega))
        rw [if_pos (.inr (by omega))] at hc1
        rw [if_pos (.inl (by omega))] at hc2
        rw [HP5.out] at hc1 hc2 hc3
        have HC1 := Lib.hid hc1
        have HC2 := Lib.hid hc2
        have HC3 := Lib.hid hc3
        clear hc1 hc2 hc3 hsc
        have hcs : decide (k < n1) = false ∨ (decide (k < n1) = true ∧ decide (k < n2) = false) ∨ (decide (k < n1) = true ∧ decide (k < n2) = true ∧ decide (k < n3) = false) ∨ (decide (k < n1) = true ∧ decide (k < n2) = true ∧ decide (k < n3) = true ∧ decide (k < n4) = false) := by
          simp only [decide_eq_true_eq, decide_eq_false_iff_not]; omega
        clear hin
        rcases hcs with e1 | ⟨e1, e2⟩ | ⟨e1, e2, e3⟩ | ⟨e1, e2, e3, e4⟩
        all_goals
          go_wp2_with fail
          refine HC1.out.mono ?_
          rintro e w9 ⟨rfl, h9⟩
          subst w9
          go_wp2_with fail
          refine HC2.out.mono ?_
          rintro e w9 ⟨rfl, h9⟩
          subst w9
          go_wp2_with fail
          refine HC3.out.mono ?_
          rintro e w9 ⟨rfl, h9⟩
          subst w9
          go_wp2_with fail
          refine (err_no 1 1 true ⟨fun _ => rfl, fun _ => rfl⟩ wo (HET.out.keep HB.out)).mono ?_
          rintro e w10 ⟨rfl, hb10⟩
          have HB10 := Lib.hid (keep HB.out hb10)
          clear hb10
          go_wp2_with fail
          refine (err_no 1 1 true ⟨fun _ => rfl, fun _ => rfl⟩ w10 (HET.out.keep HB10.out)).mono ?_
          rintro e w11 ⟨rfl, hb11⟩
          have HB11 := Lib.hid (keep HB10.out hb11)
          clear hb11
          go_wp2_with fail
          refine (err_no 1 1 true ⟨fun _ => rfl, fun _ => rfl⟩ w11 (HET.out.keep HB11.out)).mono ?_
          rintro e w12 ⟨rfl, hb12⟩
          have HB12 := Lib.hid (keep HB11.out hb12)
          clear hb12
          go_wp2_with fail
          go_ret
          exact ⟨rfl, HB12.out⟩
  · have hbad : Calls Tryd.prog 23 #[.int .i64 x, .slice A m cp, .int .i64 y] w1 fun e w' => e = .returned (.tuple #[.pointer none, errNo v]) ∧ Below w1.heap.size w1 w' := by
      rcases hf with hf | ⟨hg, hy, rfl⟩
      · exact lfiNew_bad x A m cp y a b c w1 (HL.out.keep HB1.out) hm v hv hf
      · obtain ⟨n, rfl, hn1, hn8, hr⟩ := good_nat hg
        exact lfiNew_range n n rfl A m cp y a b c w1 (HL.out.keep HB1.out) hm hg hy
    have HC := Lib.hid hbad
    clear hbad
    refine HC.out.mono ?_
    rintro e w2 ⟨rfl, hb2⟩
    have HB2 := Lib.hid (keep HB1.out hb2)
    clear hb2 HB1 HC
    go_wp2_with fail
    have hv0 : (v == 0) = false := beq_false_of_ne (by rcases hv with h | h | h <;> omega)
    have hv1 : (v != 0) = true := bne_iff_ne.2 (by rcases hv with h | h | h <;> omega)
    rcases hf with hf | ⟨hg, hy, rfl⟩
    · refine (graphFault_bad x A m cp a b c w2 (HL.out.keep HB2.out) hm v hf).mono ?_
      rintro e w3 ⟨rfl, hb3⟩
      have HB3 := Lib.hid (keep HB2.out hb3)
      clear hb3 HB2 hf hv
      go_wp2_with fail
      refine (err_no v v true ⟨fun _ => rfl, fun _ => rfl⟩ w3 (HET.out.keep HB3.out)).mono ?_
      rintro e w4 ⟨rfl, hb4⟩
      have HB4 := Lib.hid (keep HB3.out hb4)
      clear hb4
      go_wp2_with fail
      go_ret
      exact ⟨rfl, HB4.out⟩
    · refine (graphFault_good x A m cp a b c w2 (HL.out.keep HB2.out) hm hg).mono ?_
      rintro e w3 ⟨rfl, hb3⟩
      have HB3 := Lib.hid (keep HB2.out hb3)
      have hcs : decide (y < 0) = true ∨ (decide (y < 0) = false ∧ decide (x ≤ y) = true) := by
        simp only [decide_eq_true_eq, decide_eq_false_iff_not]; omega
      clear hb3 HB2 hg hy hv
      rcases hcs with e1 | ⟨e1, e2⟩
      all_goals
        go_wp2_with fail
        refine (err_no 1 1 true ⟨fun _ => rfl, fun _ => rfl⟩ w3 (HET.out.keep HB3.out)).mono ?_
        rintro e w4 ⟨rfl, hb4⟩
        have HB4 := Lib.hid (keep HB3.out hb4)
        clear hb4
        go_wp2_with fail
        go_ret
        exact ⟨rfl, HB4.out⟩

end Go.Proofs.YtminfghiejgieaaDoor

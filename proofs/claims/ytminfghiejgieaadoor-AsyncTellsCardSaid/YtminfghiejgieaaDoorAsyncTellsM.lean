/- AsyncTells: the walk. Printed by gen_asynctells.py. -/
import Derived.Test.YtminfghiejgieaaDoorQSimM
import Derived.Test.YtminfghiejgieaaDoorErr
namespace Go.Proofs.YtminfghiejgieaaDoor
open Go.RowKit
set_option linter.unusedVariables false

theorem below_setRow0 {B g : Nat} {w0 w : World} (hb : Below B w0 w) (hg : B ≤ g) (cs : Array Value) : Hid (Below B w0 (w.setRow g cs)) :=
  ⟨hb.os, hb.tape, hb.output, by rw [setRow_size]; exact hb.size, fun k hk => (setRow_other _ _ _ _ (by omega)).trans (hb.block k hk)⟩

theorem QR.farAt {P : Nat → Prop} {w : World} {x0 x1 x2 x3 x5 : Value} {aF : Addr} {m cF n t : Nat} {K h : Nat → Nat → Int} {f e : Nat → Int} {W : WayL} (q : QR P w #[x0, x1, x2, x3, .slice (some aF) m cF, x5] n t K h f e W) {i : Nat} (hi : i < n) : m = n ∧ w.cell? (aF.add i) = some (.int .i64 (f i)) := by
  obtain ⟨AC, cC, AW, cW, AH, cH, AG, cG, AL, cL, hv, -, -, -, -, hF, -⟩ := q
  simp only [Array.mk.injEq, List.cons.injEq, Value.slice.injEq, Option.some.injEq, and_true] at hv
  obtain ⟨-, -, -, -, ⟨h1, h2, -⟩, -⟩ := hv
  obtain ⟨ad, e1, -, -, hc⟩ := hF i hi
  injection e1 with e1
  rw [h1, e1]
  exact ⟨h2, hc⟩

set_option maxRecDepth 100000 in
set_option maxHeartbeats 16000000 in
theorem asyncTells_walk (x : Int) (A : Option Addr) (m cp : Nat) (a b c : Nat → Int) (y : Int) (T : Option Addr) (nt ct : Nat) (ft : Nat → Bool) (P : Option Addr) (na ca : Nat) (fa : Nat → Int) (Q : Option Addr) (nb cb : Nat) (fb : Nat → Int) (w : World) (hgg : ErrT w) (hl : Lnk w A m a b c) (hm : m ≤ 9223372036854775807) (hT : VecB w T nt ft) (hnt : nt ≤ 9223372036854775807) (hP : Vec w P na fa) (hna : na ≤ 9223372036854775807) (hQ : Vec w Q nb fb) (hnb : nb ≤ 9223372036854775807) :
    Calls Tryd.prog 3 #[.int .i64 x, .slice A m cp, .int .i64 y, .slice T nt ct, .slice P na ca, .slice Q nb cb] w fun e w' => e = .returned (.bool true) ∧ Below w.heap.size w w' := by
  have HL := Lib.hid hl
  have HT := Lib.hid hT
  have HPP := Lib.hid hP
  have HQQ := Lib.hid hQ
  have HET := Lib.hid hgg
  clear hl hT hP hQ hgg
  go_enter Tryd.func3, Tryd.ntmps3
  go_wp2_with fail
  refine (sent_walk w).mono ?_
  rintro e w1 ⟨rfl, hb1⟩
  have HB1 := Lib.hid hb1
  clear hb1
  go_wp2_with fail
  rcases bellRun_bad_aux x y m a b c with ⟨hg, h0, h1⟩ | ⟨v, hv, hf⟩
  · obtain ⟨n, rfl, hn1, hn8, hr⟩ := good_nat hg
    obtain ⟨t, rfl⟩ : ∃ t : Nat, y = t := ⟨y.toNat, by omega⟩
    have ht : t < n := by omega
    have hn8' : (n : Int) ≤ 8 := by omega
    have hd3 : decide ((t : Int) < 0) = false := decide_eq_false (by omega)
    have hd4 : decide (n ≤ t) = false := decide_eq_false (by omega)
    have HG := Lib.hid hg
    have HR := Lib.hid hr
    clear hg hr h0 h1
    have hcall := asyncNew_ok n n rfl A m cp t t rfl a b c w1 (HL.out.keep HB1.out) hm HG.out ht
    refine hcall.mono ?_
    clear hcall
    rintro e w2 ⟨lab, Ad, rfl, hA, hlow, hb2⟩
    have HA := Lib.hid hA
    have HLO : Hid (∀ b, b < w.heap.size → lab b = []) := fun b hb => hlow b (Nat.lt_of_lt_of_le hb HB1.out.size)
    have HB2 := Lib.hid (keep HB1.out hb2)
    clear hA hlow hb2 HB1
    go_wp2_with fail
    refine (graphFault_good n A m cp a b c w2 (HL.out.keep HB2.out) hm HG.out).mono ?_
    rintro e w3 ⟨rfl, hb3⟩
    have HA3 := Lib.hid (HA.out.below hb3)
    have HB3 := Lib.hid (keep HB2.out hb3)
    clear hb3 HA HB2
    go_wp2_with fail
    refine (err_nil 0 true ⟨fun _ => rfl, fun _ => rfl⟩ w3).mono ?_
    rintro e w4 ⟨rfl, hb4⟩
    have HA4 := Lib.hid (HA3.out.below hb4)
    have HB4 := Lib.hid (keep HB3.out hb4)
    clear hb4 HA3 HB3
    go_wp2_with fail
    refine (qNew n t A m cp a b c w4 (HL.out.keep HB4.out) hm hn1 hn8 ht).mono ?_
    rintro e w5 ⟨v5, rfl, hv5, hb5⟩
    have hA5 := HA4.out.below hb5
    have hB5 := keep HB4.out hb5
    have hfree := HA4.out.free
    have hsz := hb5.size
    have HI0 : Hid (AInv n t (costF m a b c) (endF t a b c m) (AS.new t)) := AInv.new (cost_m HR.out) (end_k HR.out)
    have HD0 : Hid (∀ i, i < n → 0 ≤ endF t a b c m i) := fun i hi => (end_ranged HR.out i hi).1
    have hvv := hv5
    obtain ⟨AC, cC, AW, cW, AH, cH, AG, cF, AL, cL, rfl, -⟩ := hvv
    have hpm : Blk (w5.alloc (.cells #[.int .i64 t, .slice (some AC) n cC, .slice AW 0 cW, .slice (some AH) n cH, .slice (some AG) n cF, .slice (some AL) n cL] 37)) w5.heap.size 37 _ := Blk.new _ _ _
    have hb6 : Below w5.heap.size w5 (w5.alloc (.cells #[.int .i64 t, .slice (some AC) n cC, .slice AW 0 cW, .slice (some AH) n cH, .slice (some AG) n cF, .slice (some AL) n cL] 37)) := (Below.refl _ _).alloc (Nat.le_refl _) _
    have hq6 : QS (w5.alloc (.cells #[.int .i64 t, .slice (some AC) n cC, .slice AW 0 cW, .slice (some AH) n cH, .slice (some AG) n cF, .slice (some AL) n cL] 37)) lab Ad w5.heap.size _ n t (costF m a b c) (endF t a b c m) (startF t) (AS.new t) (fun _ _ => 16) (startF t) [] :=
      ⟨hA5.below hb6, HI0.out, hpm, hA5.free _ (Nat.le_refl _), hv5.same (fun b _ hlt => hb6.block b hlt) hb6.size fun b hb hlt => ⟨hfree b hb, by omega⟩⟩
    have HQ0 := Lib.hid hq6
    have HB0 := Lib.hid (keep hB5 hb6)
    have hpmw : w.heap.size ≤ w5.heap.size := hB5.size
    obtain ⟨pm, hpme⟩ : ∃ pm, w5.heap.size = pm := ⟨_, rfl⟩
    obtain ⟨p0, hp0⟩ : ∃ p0, Ad.p = p0 := ⟨_, rfl⟩
    have HP0 := Lib.hid hp0
    rw [hpme] at HQ0 hpmw
    have HPM := Lib.hid hpmw
    rw [hp0]
    clear hv5 hb5 hA5 hB5 hfree hsz hpm hb6 hq6 HA4 HB4 hp0 HI0
    go_wp2_with fail
    clear hpme
    go_loopw [19] (fun q wr => ∃ k : Nat, k ≤ nt ∧ q = .int .i64 k ∧ (∃ lab Ad s h f W v, Ad.p = p0 ∧ QS wr lab Ad pm v n t (costF m a b c) (endF t a b c m) (startF t) s h f W ∧ Syn n s h f W ∧ (∀ b, b < w.heap.size → lab b = [])) ∧ Below w.heap.size w wr) (fun q _ => nt - (intOf q).toNat)
    case atStart => exact ⟨0, by omega, rfl, ⟨lab, Ad, _, _, _, _, _, HP0.out, HQ0.out, Syn.new, HLO.out⟩, HB0.out⟩
    case round =>
      obtain ⟨k, hk, rfl, ⟨lab5, A5, s5, h5, f5, WW, v, hp5, hq5, hy5, hlo5⟩, hb5⟩ := hrel
      have hvv := hq5.qr
      obtain ⟨AC, cC, AW, cW, AH, cH, AG, cF, AL, cL, rfl, -⟩ := hvv
      have HQ := Lib.hid hq5
      have HY5 := Lib.hid hy5
      have HLO5 := Lib.hid hlo5
      have HB := Lib.hid hb5
      have HP5 := Lib.hid hp5
      have HI5 := Lib.hid hq5.inv
      clear hp5 hq5 hy5 hlo5 hb5 HQ0 HB0 HLO HP0
      obtain ⟨wo, hwo⟩ : ∃ wo : World, wo = wr := ⟨_, rfl⟩
      rw [← hwo] at HQ HB ⊢
      clear hwo
      by_cases hin : k < nt ∧ k < na ∧ k < nb
      · obtain ⟨hi1, hi2, hi3⟩ := hin
        have hi1' : (k : Int) < nt := by omega
        have hi2' : (k : Int) < na := by omega
        have hi3' : (k : Int) < nb := by omega
        obtain ⟨adt, rfl, htl, -⟩ := HT.out k hi1
        obtain ⟨ada, rfl, -, ca1⟩ := HPP.out.keep HB.out k hi2
        obtain ⟨adb, rfl, -, cb1⟩ := HQQ.out.keep HB.out k hi3
        have HCT : Hid (∀ w', Below w.heap.size w w' → w'.cell? (adt.add k) = some (.bool (ft k))) := fun w' hb => by
          obtain ⟨ad', e', -, hc⟩ := HT.out.keep hb k hi1
          simp only [Option.some.injEq] at e'
          subst e'
          exact hc
        obtain ⟨av, hav⟩ : ∃ av, fa k = av := ⟨_, rfl⟩
        obtain ⟨bv, hbv⟩ : ∃ bv, fb k = bv := ⟨_, rfl⟩
        rw [hav] at ca1
        rw [hbv] at cb1
        clear hav hbv
        have hwa := asyncWaits lab5 A5 n t (costF m a b c) s5 av bv wo HQ.out.an hn8
        rw [HP5.out] at hwa
        have HLEN := Lib.hid (HY5.out.len HI5.out hn8)
        obtain ⟨tk, htk⟩ : ∃ tk, ft k = tk := ⟨_, rfl⟩
        rw [htk] at HCT
        clear htk htl
        obtain ⟨en, hen⟩ : ∃ en, nearE n (costF m a b c) av bv = en := ⟨_, rfl⟩
        have HEN := Lib.hid hen
        rw [hen] at hwa
        have k0 : World.cell? _ ⟨pm, 0, none⟩ = some (.int .i64 t) := HQ.out.blk.cell 0
        have k1 : World.cell? _ ⟨pm, 1, none⟩ = some (.slice (some AC) n cC) := HQ.out.blk.cell 1
        have k2 : World.cell? _ ⟨pm, 2, none⟩ = some (.slice AW WW.length cW) := HQ.out.blk.cell 2
        have k3 : World.cell? _ ⟨pm, 3, none⟩ = some (.slice (some AH) n cH) := HQ.out.blk.cell 3
        have k4 : World.cell? _ ⟨pm, 4, none⟩ = some (.slice (some AG) n cF) := HQ.out.blk.cell 4
        have k5 : World.cell? _ ⟨pm, 5, none⟩ = some (.slice (some AL) n cL) := HQ.out.blk.cell 5
        by_cases hn0 : en = 0
        · subst hn0
          rw [if_pos rfl] at hwa
          obtain ⟨x, y, hax, hby, hx, hy, hne, hk16⟩ := near_zero hen
          have hLs : (s5.q av.toNat bv.toNat).length = (onWay WW x y).length := by
            rw [hax, hby, show ((x : Int)).toNat = x by omega, show ((y : Int)).toNat = y by omega, HY5.out.way]
          rw [hLs] at hwa
          obtain ⟨LL, hLL⟩ : ∃ LL, (onWay WW x y).length = LL := ⟨_, rfl⟩
          rw [hLL] at hwa
          have HLN := Lib.hid hLL
          have HWA := Lib.hid hwa
          clear hwa hLs hLL hen hne hk16
          subst hax
          subst hby
          cases tk with
          | true =>
            obtain ⟨te, hte⟩ : ∃ te, s5.takeE n (costF m a b c) x y = te := ⟨_, rfl⟩
            have HTE := Lib.hid hte
            by_cases ht0 : te = 0
            · subst ht0
              have hs6 : s5.take n t (costF m a b c) x y = (s5.come x y).think n t (costF m a b c) y := by
                unfold AS.take
                rw [hte, if_pos rfl, show ((x : Int)).toNat = x by omega, show ((y : Int)).toNat = y by omega]
              obtain ⟨s6, hs6'⟩ : ∃ s6, s5.take n t (costF m a b c) x y = s6 := ⟨_, rfl⟩
              rw [hs6'] at hs6
              have HS6 := Lib.hid hs6'
              have HI6 : Hid (AInv n t (costF m a b c) (endF t a b c m) s6) := by
                rw [← hs6']
                exact Lib.hid (HI5.out.take (cost_m HR.out) (end_k HR.out) x y).1
              have HNE : Hid (onWay WW x y ≠ []) := fun h0 => by
                have h1 := (take_zero hte).2
                rw [show ((x : Int)).toNat = x by omega, show ((y : Int)).toNat = y by omega, HY5.out.way, h0] at h1
                exact absurd h1 (by simp)
              have HNN := Lib.hid (HY5.out.nonneg HI5.out HD0.out)
              obtain ⟨z, hz⟩ : ∃ z, (onWay WW x y).headD 0 = z := ⟨_, rfl⟩
              have HFV := Lib.hid hz
              have HFI : Hid (s5.first ((x : Int)).toNat ((y : Int)).toNat = z) := by
                unfold AS.first
                rw [show ((x : Int)).toNat = x by omega, show ((y : Int)).toNat = y by omega, HY5.out.way, hz]
                exact Lib.hid rfl
              have hyc0 := HY5.out.come x y
              rw [hz] at hyc0
              obtain ⟨h6, hh6⟩ : ∃ h6, (fun p q => if p = y ∧ q = x then z else h5 p q) = h6 := ⟨_, rfl⟩
              rw [hh6] at hyc0
              have hyc := hyc0.think (t := t) (K := costF m a b c) y
              rw [← hs6] at hyc
              clear hyc0
              obtain ⟨f6, hf6⟩ : ∃ f6, (fun i => if i = y ∧ y ≠ t then hearF (costF m a b c) (h6 y) y n else f5 i) = f6 := ⟨_, rfl⟩
              rw [hf6] at hyc
              have HH6 := Lib.hid hh6
              have HF6 := Lib.hid hf6
              have HHR : Hid (∀ a b, a < n → b < n → 0 ≤ h6 a b ∧ h6 a b ≤ 16) := by
                rw [hyc.h]
                exact Lib.hid (HI6.out.asks HD0.out).1
              have HKR : Hid (∀ u v, u < n → v < n → 0 ≤ costF m a b c u v ∧ costF m a b c u v ≤ 16) := fun u v hu hv => ⟨(cost_m HR.out).nonneg hu hv, (cost_m HR.out).high u v hu hv⟩
              obtain ⟨WB, hWB⟩ : ∃ WB, dropW x y WW = WB := ⟨_, rfl⟩
              rw [hWB] at hyc
              have HWB := Lib.hid hWB
              have HLEB := Lib.hid (hyc.len HI6.out hn8)
              have HY6 := Lib.hid hyc
              clear hs6 hs6' hz hh6 hf6 hyc hWB
              clear hte
              go_wp2_with fail
              refine HWA.out.mono ?_
              rintro e w9 ⟨rfl, h9⟩
              subst w9
              clear HWA
              go_wp2_with fail
              refine (qNear (fun b => lab5 b = [] ∧ b ≠ pm) _ n t (costF m a b c) h5 f5 (startF t) WW x y wo HQ.out.qr hn8).mono ?_
              rintro e w11 ⟨rfl, hb11⟩
              have HQ11 := Lib.hid (HQ.out.below hb11)
              have HB11 := Lib.hid (keep HB.out hb11)
              clear hb11 HQ HB k0 k1 k2 k3 k4 k5
              have k0 : World.cell? _ ⟨pm, 0, none⟩ = some (.int .i64 t) := HQ11.out.blk.cell 0
              have k1 : World.cell? _ ⟨pm, 1, none⟩ = some (.slice (some AC) n cC) := HQ11.out.blk.cell 1
              have k2 : World.cell? _ ⟨pm, 2, none⟩ = some (.slice AW WW.length cW) := HQ11.out.blk.cell 2
              have k3 : World.cell? _ ⟨pm, 3, none⟩ = some (.slice (some AH) n cH) := HQ11.out.blk.cell 3
              have k4 : World.cell? _ ⟨pm, 4, none⟩ = some (.slice (some AG) n cF) := HQ11.out.blk.cell 4
              have k5 : World.cell? _ ⟨pm, 5, none⟩ = some (.slice (some AL) n cL) := HQ11.out.blk.cell 5
              rw [HEN.out]
              go_wp2_with fail
              refine (err_nil 0 true ⟨fun _ => rfl, fun _ => rfl⟩ w11).mono ?_
              rintro e w12 ⟨rfl, hb12⟩
              have HQ12 := Lib.hid (HQ11.out.below hb12)
              have HB12 := Lib.hid (keep HB11.out hb12)
              clear hb12 HQ11 HB11 k0 k1 k2 k3 k4 k5
              have k0 : World.cell? _ ⟨pm, 0, none⟩ = some (.int .i64 t) := HQ12.out.blk.cell 0
              have k1 : World.cell? _ ⟨pm, 1, none⟩ = some (.slice (some AC) n cC) := HQ12.out.blk.cell 1
              have k2 : World.cell? _ ⟨pm, 2, none⟩ = some (.slice AW WW.length cW) := HQ12.out.blk.cell 2
              have k3 : World.cell? _ ⟨pm, 3, none⟩ = some (.slice (some AH) n cH) := HQ12.out.blk.cell 3
              have k4 : World.cell? _ ⟨pm, 4, none⟩ = some (.slice (some AG) n cF) := HQ12.out.blk.cell 4
              have k5 : World.cell? _ ⟨pm, 5, none⟩ = some (.slice (some AL) n cL) := HQ12.out.blk.cell 5
              go_wp2_with fail
              refine (qNear (fun b => lab5 b = [] ∧ b ≠ pm) _ n t (costF m a b c) h5 f5 (startF t) WW x y w12 HQ12.out.qr hn8).mono ?_
              rintro e w13 ⟨rfl, hb13⟩
              have HQ13 := Lib.hid (HQ12.out.below hb13)
              have HB13 := Lib.hid (keep HB12.out hb13)
              clear hb13 HQ12 HB12 k0 k1 k2 k3 k4 k5
              have k0 : World.cell? _ ⟨pm, 0, none⟩ = some (.int .i64 t) := HQ13.out.blk.cell 0
              have k1 : World.cell? _ ⟨pm, 1, none⟩ = some (.slice (some AC) n cC) := HQ13.out.blk.cell 1
              have k2 : World.cell? _ ⟨pm, 2, none⟩ = some (.slice AW WW.length cW) := HQ13.out.blk.cell 2
              have k3 : World.cell? _ ⟨pm, 3, none⟩ = some (.slice (some AH) n cH) := HQ13.out.blk.cell 3
              have k4 : World.cell? _ ⟨pm, 4, none⟩ = some (.slice (some AG) n cF) := HQ13.out.blk.cell 4
              have k5 : World.cell? _ ⟨pm, 5, none⟩ = some (.slice (some AL) n cL) := HQ13.out.blk.cell 5
              rw [HEN.out]
              go_wp2_with fail
              refine (qWaits (fun b => lab5 b = [] ∧ b ≠ pm) _ n t (costF m a b c) h5 f5 (startF t) WW x y x y rfl rfl w13 HQ13.out.qr (by have := HY5.out.len HI5.out hn8; omega)).mono ?_
              rintro e w14 ⟨rfl, hb14⟩
              have HQ14 := Lib.hid (HQ13.out.below hb14)
              have HB14 := Lib.hid (keep HB13.out hb14)
              clear hb14 HQ13 HB13 k0 k1 k2 k3 k4 k5
              have k0 : World.cell? _ ⟨pm, 0, none⟩ = some (.int .i64 t) := HQ14.out.blk.cell 0
              have k1 : World.cell? _ ⟨pm, 1, none⟩ = some (.slice (some AC) n cC) := HQ14.out.blk.cell 1
              have k2 : World.cell? _ ⟨pm, 2, none⟩ = some (.slice AW WW.length cW) := HQ14.out.blk.cell 2
              have k3 : World.cell? _ ⟨pm, 3, none⟩ = some (.slice (some AH) n cH) := HQ14.out.blk.cell 3
              have k4 : World.cell? _ ⟨pm, 4, none⟩ = some (.slice (some AG) n cF) := HQ14.out.blk.cell 4
              have k5 : World.cell? _ ⟨pm, 5, none⟩ = some (.slice (some AL) n cL) := HQ14.out.blk.cell 5
              rw [HLN.out]
              have ct1 := HCT.out _ HB14.out
              go_wp2_with fail
              refine (qTake (fun b => lab5 b = [] ∧ b ≠ pm) _ n t (costF m a b c) h5 f5 (startF t) WW x y w14 HQ14.out.qr hn8 (by have := HY5.out.len HI5.out hn8; omega)).mono ?_
              rintro e w15 ⟨rfl, hb15⟩
              have HQ15 := Lib.hid (HQ14.out.below hb15)
              have HB15 := Lib.hid (keep HB14.out hb15)
              clear hb15 HQ14 HB14 k0 k1 k2 k3 k4 k5
              have k0 : World.cell? _ ⟨pm, 0, none⟩ = some (.int .i64 t) := HQ15.out.blk.cell 0
              have k1 : World.cell? _ ⟨pm, 1, none⟩ = some (.slice (some AC) n cC) := HQ15.out.blk.cell 1
              have k2 : World.cell? _ ⟨pm, 2, none⟩ = some (.slice AW WW.length cW) := HQ15.out.blk.cell 2
              have k3 : World.cell? _ ⟨pm, 3, none⟩ = some (.slice (some AH) n cH) := HQ15.out.blk.cell 3
              have k4 : World.cell? _ ⟨pm, 4, none⟩ = some (.slice (some AG) n cF) := HQ15.out.blk.cell 4
              have k5 : World.cell? _ ⟨pm, 5, none⟩ = some (.slice (some AL) n cL) := HQ15.out.blk.cell 5
              rw [HY5.out.takeE, HTE.out]
              go_wp2_with fail
              have hcall := asyncTake lab5 A5 n t (costF m a b c) s5 x y w15 HQ15.out.an hn8 (fun i k hi hk => ⟨(cost_m HR.out).nonneg hi hk, (cost_m HR.out).high i k hi hk⟩) (HQ15.out.inv.asks HD0.out).1 (HQ15.out.inv.asks HD0.out).2 HQ15.out.inv.few
              rw [HP5.out, HTE.out] at hcall
              rw [if_pos rfl, HFI.out, errV_zero] at hcall
              refine hcall.mono ?_
              clear hcall
              rintro e w16 ⟨rfl, lab16, A16, hp16, hA16, hF16⟩
              rw [HS6.out] at hA16
              have HQ16 := Lib.hid (HQ15.out.turn hA16 HI6.out hF16)
              have HBL16 := Lib.hid (hF16.below HB15.out.size HLO5.out)
              have HB16 := Lib.hid (HB15.out.trans HBL16.out.1)
              have HLO16 := Lib.hid HBL16.out.2
              have HP16 := Lib.hid hp16
              clear hp16 hA16 hF16 HQ15 HB15 HBL16 k0 k1 k2 k3 k4 k5
              have k0 : World.cell? _ ⟨pm, 0, none⟩ = some (.int .i64 t) := HQ16.out.blk.cell 0
              have k1 : World.cell? _ ⟨pm, 1, none⟩ = some (.slice (some AC) n cC) := HQ16.out.blk.cell 1
              have k2 : World.cell? _ ⟨pm, 2, none⟩ = some (.slice AW WW.length cW) := HQ16.out.blk.cell 2
              have k3 : World.cell? _ ⟨pm, 3, none⟩ = some (.slice (some AH) n cH) := HQ16.out.blk.cell 3
              have k4 : World.cell? _ ⟨pm, 4, none⟩ = some (.slice (some AG) n cF) := HQ16.out.blk.cell 4
              have k5 : World.cell? _ ⟨pm, 5, none⟩ = some (.slice (some AL) n cL) := HQ16.out.blk.cell 5
              go_wp2_with fail
              refine (err_nil 0 true ⟨fun _ => rfl, fun _ => rfl⟩ w16).mono ?_
              rintro e w17 ⟨rfl, hb17⟩
              have HQ17 := Lib.hid (HQ16.out.below hb17)
              have HB17 := Lib.hid (keep HB16.out hb17)
              clear hb17 HQ16 HB16 k0 k1 k2 k3 k4 k5
              have k0 : World.cell? _ ⟨pm, 0, none⟩ = some (.int .i64 t) := HQ17.out.blk.cell 0
              have k1 : World.cell? _ ⟨pm, 1, none⟩ = some (.slice (some AC) n cC) := HQ17.out.blk.cell 1
              have k2 : World.cell? _ ⟨pm, 2, none⟩ = some (.slice AW WW.length cW) := HQ17.out.blk.cell 2
              have k3 : World.cell? _ ⟨pm, 3, none⟩ = some (.slice (some AH) n cH) := HQ17.out.blk.cell 3
              have k4 : World.cell? _ ⟨pm, 4, none⟩ = some (.slice (some AG) n cF) := HQ17.out.blk.cell 4
              have k5 : World.cell? _ ⟨pm, 5, none⟩ = some (.slice (some AL) n cL) := HQ17.out.blk.cell 5
              go_wp2_with fail
              refine (qCame (fun b => lab16 b = [] ∧ b ≠ pm) _ n t (costF m a b c) h5 f5 (startF t) WW x y w17 HQ17.out.qr hn1 hn8 (by have := HLEN.out; omega) hx hy HNN.out HNE.out).mono ?_
              rintro e w18 ⟨v18, rfl, hv18, hb18⟩
              rw [HFV.out, HH6.out, HWB.out] at hv18
              rw [HFV.out]
              have HL18 := Lib.hid (HQ17.out.an.free)
              have HPL18 := Lib.hid (HQ17.out.blk.lt)
              have HQ18 := Lib.hid (HQ17.out.below hb18)
              have HB18 := Lib.hid (keep HB17.out hb18)
              clear hb18 HQ17 HB17 k0 k1 k2 k3 k4 k5
              have k0 : World.cell? _ ⟨pm, 0, none⟩ = some (.int .i64 t) := HQ18.out.blk.cell 0
              have k1 : World.cell? _ ⟨pm, 1, none⟩ = some (.slice (some AC) n cC) := HQ18.out.blk.cell 1
              have k2 : World.cell? _ ⟨pm, 2, none⟩ = some (.slice AW WW.length cW) := HQ18.out.blk.cell 2
              have k3 : World.cell? _ ⟨pm, 3, none⟩ = some (.slice (some AH) n cH) := HQ18.out.blk.cell 3
              have k4 : World.cell? _ ⟨pm, 4, none⟩ = some (.slice (some AG) n cF) := HQ18.out.blk.cell 4
              have k5 : World.cell? _ ⟨pm, 5, none⟩ = some (.slice (some AL) n cL) := HQ18.out.blk.cell 5
              have hvv := hv18
              obtain ⟨ACb, cCb, AWb, cWb, AHb, cHb, AGb, cFb, ALb, cLb, rfl, -⟩ := hvv
              have hq19 := HQ18.out.put hv18 HPL18.out HL18.out
              have HP19 := Lib.hid HQ18.out.blk
              have HB19 : Hid (Below w.heap.size w (World.setRow _ pm _)) := below_setRow0 HB18.out HPM.out #[.int .i64 t, .slice (some ACb) n cCb, .slice AWb WB.length cWb, .slice (some AHb) n cHb, .slice (some AGb) n cFb, .slice (some ALb) n cLb]
              have HQ19 := Lib.hid hq19
              clear hq19 HQ18 HB18 k0 k1 k2 k3 k4 k5
              have k0 : World.cell? _ ⟨pm, 0, none⟩ = some (.int .i64 t) := HQ19.out.blk.cell 0
              have k1 : World.cell? _ ⟨pm, 1, none⟩ = some (.slice (some ACb) n cCb) := HQ19.out.blk.cell 1
              have k2 : World.cell? _ ⟨pm, 2, none⟩ = some (.slice AWb WB.length cWb) := HQ19.out.blk.cell 2
              have k3 : World.cell? _ ⟨pm, 3, none⟩ = some (.slice (some AHb) n cHb) := HQ19.out.blk.cell 3
              have k4 : World.cell? _ ⟨pm, 4, none⟩ = some (.slice (some AGb) n cFb) := HQ19.out.blk.cell 4
              have k5 : World.cell? _ ⟨pm, 5, none⟩ = some (.slice (some ALb) n cLb) := HQ19.out.blk.cell 5
              go_wp2_with (refine wpList_store_row rfl 37 (.tmp 18) (.tmp 151) rfl pm #[.int .i64 t, .slice (some ACb) n cCb, .slice AWb WB.length cWb, .slice (some AHb) n cHb, .slice (some AGb) n cFb, .slice (some ALb) n cLb] rfl rfl _ _ HP19.out (by kernel_rfl) rfl (by simp [Value.oneCell']) ?_)
              obtain ⟨w20, hw20⟩ : ∃ w', World.setRow w18 pm #[.int .i64 t, .slice (some ACb) n cCb, .slice AWb WB.length cWb, .slice (some AHb) n cHb, .slice (some AGb) n cFb, .slice (some ALb) n cLb] = w' := ⟨_, rfl⟩
              rw [hw20] at HQ19 HB19 k0 k1 k2 k3 k4 k5 ⊢
              clear hw20 HP19
              go_wp2_with fail
              refine (qThinks (fun b => lab16 b = [] ∧ b ≠ pm) _ n t (costF m a b c) h6 f5 (startF t) WB y w20 HQ19.out.qr hn1 hn8 (by have := HLEB.out; omega) hy HKR.out HHR.out).mono ?_
              rintro e w21 ⟨v21, rfl, hv21, hb21⟩
              have HL21 := Lib.hid (HQ19.out.an.free)
              have HPL21 := Lib.hid (HQ19.out.blk.lt)
              have HQ21 := Lib.hid (HQ19.out.below hb21)
              have HB21 := Lib.hid (keep HB19.out hb21)
              clear hb21 HQ19 HB19 k0 k1 k2 k3 k4 k5
              have k0 : World.cell? _ ⟨pm, 0, none⟩ = some (.int .i64 t) := HQ21.out.blk.cell 0
              have k1 : World.cell? _ ⟨pm, 1, none⟩ = some (.slice (some ACb) n cCb) := HQ21.out.blk.cell 1
              have k2 : World.cell? _ ⟨pm, 2, none⟩ = some (.slice AWb WB.length cWb) := HQ21.out.blk.cell 2
              have k3 : World.cell? _ ⟨pm, 3, none⟩ = some (.slice (some AHb) n cHb) := HQ21.out.blk.cell 3
              have k4 : World.cell? _ ⟨pm, 4, none⟩ = some (.slice (some AGb) n cFb) := HQ21.out.blk.cell 4
              have k5 : World.cell? _ ⟨pm, 5, none⟩ = some (.slice (some ALb) n cLb) := HQ21.out.blk.cell 5
              rw [HF6.out] at hv21
              have hvv := hv21
              obtain ⟨ACc, cCc, AWc, cWc, AHc, cHc, AGc, cFc, ALc, cLc, rfl, -⟩ := hvv
              have hq22 := HQ21.out.put hv21 HPL21.out HL21.out
              have HP22 := Lib.hid HQ21.out.blk
              have HB22 : Hid (Below w.heap.size w (World.setRow _ pm _)) := below_setRow0 HB21.out HPM.out #[.int .i64 t, .slice (some ACc) n cCc, .slice AWc WB.length cWc, .slice (some AHc) n cHc, .slice (some AGc) n cFc, .slice (some ALc) n cLc]
              have HQ22 := Lib.hid hq22
              clear hq22 HQ21 HB21 k0 k1 k2 k3 k4 k5
              have k0 : World.cell? _ ⟨pm, 0, none⟩ = some (.int .i64 t) := HQ22.out.blk.cell 0
              have k1 : World.cell? _ ⟨pm, 1, none⟩ = some (.slice (some ACc) n cCc) := HQ22.out.blk.cell 1
              have k2 : World.cell? _ ⟨pm, 2, none⟩ = some (.slice AWc WB.length cWc) := HQ22.out.blk.cell 2
              have k3 : World.cell? _ ⟨pm, 3, none⟩ = some (.slice (some AHc) n cHc) := HQ22.out.blk.cell 3
              have k4 : World.cell? _ ⟨pm, 4, none⟩ = some (.slice (some AGc) n cFc) := HQ22.out.blk.cell 4
              have k5 : World.cell? _ ⟨pm, 5, none⟩ = some (.slice (some ALc) n cLc) := HQ22.out.blk.cell 5
              go_wp2_with (refine wpList_store_row rfl 37 (.tmp 18) (.tmp 155) rfl pm #[.int .i64 t, .slice (some ACc) n cCc, .slice AWc WB.length cWc, .slice (some AHc) n cHc, .slice (some AGc) n cFc, .slice (some ALc) n cLc] rfl rfl _ _ HP22.out (by kernel_rfl) rfl (by simp [Value.oneCell']) ?_)
              obtain ⟨w23, hw23⟩ : ∃ w', World.setRow w21 pm #[.int .i64 t, .slice (some ACc) n cCc, .slice AWc WB.length cWc, .slice (some AHc) n cHc, .slice (some AGc) n cFc, .slice (some ALc) n cLc] = w' := ⟨_, rfl⟩
              rw [hw23] at HQ22 HB22 k0 k1 k2 k3 k4 k5 ⊢
              clear hw23 HP22
              go_wp2_with fail
              go_loopw [29] (fun q wi => ∃ i : Nat, i ≤ n ∧ q = .int .i64 i ∧ wi = w23) (fun q _ => n - (intOf q).toNat)
              case atStart => exact ⟨0, by omega, rfl, rfl⟩
              case round =>
                obtain ⟨i, hi, rfl, hwi⟩ := hrel
                subst hwi
                by_cases hin7 : i < n
                · have hin7' : (i : Int) < n := by omega
                  have hcall := netDist i i rfl hin7 HQ22.out.an hn8
                  rw [HP16.out] at hcall
                  have c9 := (HQ22.out.qr.farAt hin7).2
                  rw [HY6.out.f] at c9
                  obtain ⟨dd, hdd⟩ : ∃ dd, s6.f i = dd := ⟨_, rfl⟩
                  rw [hdd] at hcall c9
                  have HC := Lib.hid hcall
                  clear hcall hdd
                  go_wp2_with fail
                  refine HC.out.mono ?_
                  rintro e w88 ⟨rfl, h8⟩
                  subst w88
                  clear HC
                  go_wp2_with fail
                  go_roundw
                  case rel => exact ⟨i + 1, by omega, by go_num, trivial⟩
                  case measure => simp [intOf]; omega
                · have hid7 : decide ((i : Int) < n) = false := decide_eq_false (by omega)
                  have hid8 : decide (n ≤ i) = true := decide_eq_true (by omega)
                  clear k0 k1 k2 k3 k4 k5
                  go_wp2_with fail
                  go_roundw
                  case rel => exact ⟨k + 1, by omega, by go_num, ⟨lab16, A16, s6, h6, f6, WB, _, HP16.out, HQ22.out, HY6.out, HLO16.out⟩, HB22.out⟩
                  case measure => simp [intOf]; omega
            · have ht00 := ht0
              have HS6 : Hid (s5.take n t (costF m a b c) x y = s5) := by
                unfold AS.take
                rw [if_neg (fun hc => ht0 (hte.symm.trans hc))]
                exact Lib.hid rfl
              obtain ⟨s6, hs66⟩ : ∃ s6, s5 = s6 := ⟨_, rfl⟩
              have HI6 : Hid (AInv n t (costF m a b c) (endF t a b c m) s6) := hs66 ▸ HI5.out
              have HY6 : Hid (Syn n s6 h5 f5 WW) := hs66 ▸ HY5.out
              have HS6' : Hid (s5.take n t (costF m a b c) x y = s6) := hs66 ▸ HS6.out
              clear HS6 hs66
              have HS6 := HS6'
              clear HS6'
              have htb : (te == 0) = false := beq_false_of_ne ht0
              have HT0 := Lib.hid ht0
              clear hte ht0 ht00
              go_wp2_with fail
              refine HWA.out.mono ?_
              rintro e w9 ⟨rfl, h9⟩
              subst w9
              clear HWA
              go_wp2_with fail
              refine (qNear (fun b => lab5 b = [] ∧ b ≠ pm) _ n t (costF m a b c) h5 f5 (startF t) WW x y wo HQ.out.qr hn8).mono ?_
              rintro e w25 ⟨rfl, hb25⟩
              have HQ25 := Lib.hid (HQ.out.below hb25)
              have HB25 := Lib.hid (keep HB.out hb25)
              clear hb25 HQ HB k0 k1 k2 k3 k4 k5
              have k0 : World.cell? _ ⟨pm, 0, none⟩ = some (.int .i64 t) := HQ25.out.blk.cell 0
              have k1 : World.cell? _ ⟨pm, 1, none⟩ = some (.slice (some AC) n cC) := HQ25.out.blk.cell 1
              have k2 : World.cell? _ ⟨pm, 2, none⟩ = some (.slice AW WW.length cW) := HQ25.out.blk.cell 2
              have k3 : World.cell? _ ⟨pm, 3, none⟩ = some (.slice (some AH) n cH) := HQ25.out.blk.cell 3
              have k4 : World.cell? _ ⟨pm, 4, none⟩ = some (.slice (some AG) n cF) := HQ25.out.blk.cell 4
              have k5 : World.cell? _ ⟨pm, 5, none⟩ = some (.slice (some AL) n cL) := HQ25.out.blk.cell 5
              rw [HEN.out]
              go_wp2_with fail
              refine (err_nil 0 true ⟨fun _ => rfl, fun _ => rfl⟩ w25).mono ?_
              rintro e w26 ⟨rfl, hb26⟩
              have HQ26 := Lib.hid (HQ25.out.below hb26)
              have HB26 := Lib.hid (keep HB25.out hb26)
              clear hb26 HQ25 HB25 k0 k1 k2 k3 k4 k5
              have k0 : World.cell? _ ⟨pm, 0, none⟩ = some (.int .i64 t) := HQ26.out.blk.cell 0
              have k1 : World.cell? _ ⟨pm, 1, none⟩ = some (.slice (some AC) n cC) := HQ26.out.blk.cell 1
              have k2 : World.cell? _ ⟨pm, 2, none⟩ = some (.slice AW WW.length cW) := HQ26.out.blk.cell 2
              have k3 : World.cell? _ ⟨pm, 3, none⟩ = some (.slice (some AH) n cH) := HQ26.out.blk.cell 3
              have k4 : World.cell? _ ⟨pm, 4, none⟩ = some (.slice (some AG) n cF) := HQ26.out.blk.cell 4
              have k5 : World.cell? _ ⟨pm, 5, none⟩ = some (.slice (some AL) n cL) := HQ26.out.blk.cell 5
              go_wp2_with fail
              refine (qNear (fun b => lab5 b = [] ∧ b ≠ pm) _ n t (costF m a b c) h5 f5 (startF t) WW x y w26 HQ26.out.qr hn8).mono ?_
              rintro e w27 ⟨rfl, hb27⟩
              have HQ27 := Lib.hid (HQ26.out.below hb27)
              have HB27 := Lib.hid (keep HB26.out hb27)
              clear hb27 HQ26 HB26 k0 k1 k2 k3 k4 k5
              have k0 : World.cell? _ ⟨pm, 0, none⟩ = some (.int .i64 t) := HQ27.out.blk.cell 0
              have k1 : World.cell? _ ⟨pm, 1, none⟩ = some (.slice (some AC) n cC) := HQ27.out.blk.cell 1
              have k2 : World.cell? _ ⟨pm, 2, none⟩ = some (.slice AW WW.length cW) := HQ27.out.blk.cell 2
              have k3 : World.cell? _ ⟨pm, 3, none⟩ = some (.slice (some AH) n cH) := HQ27.out.blk.cell 3
              have k4 : World.cell? _ ⟨pm, 4, none⟩ = some (.slice (some AG) n cF) := HQ27.out.blk.cell 4
              have k5 : World.cell? _ ⟨pm, 5, none⟩ = some (.slice (some AL) n cL) := HQ27.out.blk.cell 5
              rw [HEN.out]
              go_wp2_with fail
              refine (qWaits (fun b => lab5 b = [] ∧ b ≠ pm) _ n t (costF m a b c) h5 f5 (startF t) WW x y x y rfl rfl w27 HQ27.out.qr (by have := HY5.out.len HI5.out hn8; omega)).mono ?_
              rintro e w28 ⟨rfl, hb28⟩
              have HQ28 := Lib.hid (HQ27.out.below hb28)
              have HB28 := Lib.hid (keep HB27.out hb28)
              clear hb28 HQ27 HB27 k0 k1 k2 k3 k4 k5
              have k0 : World.cell? _ ⟨pm, 0, none⟩ = some (.int .i64 t) := HQ28.out.blk.cell 0
              have k1 : World.cell? _ ⟨pm, 1, none⟩ = some (.slice (some AC) n cC) := HQ28.out.blk.cell 1
              have k2 : World.cell? _ ⟨pm, 2, none⟩ = some (.slice AW WW.length cW) := HQ28.out.blk.cell 2
              have k3 : World.cell? _ ⟨pm, 3, none⟩ = some (.slice (some AH) n cH) := HQ28.out.blk.cell 3
              have k4 : World.cell? _ ⟨pm, 4, none⟩ = some (.slice (some AG) n cF) := HQ28.out.blk.cell 4
              have k5 : World.cell? _ ⟨pm, 5, none⟩ = some (.slice (some AL) n cL) := HQ28.out.blk.cell 5
              rw [HLN.out]
              have ct1 := HCT.out _ HB28.out
              go_wp2_with fail
              refine (qTake (fun b => lab5 b = [] ∧ b ≠ pm) _ n t (costF m a b c) h5 f5 (startF t) WW x y w28 HQ28.out.qr hn8 (by have := HY5.out.len HI5.out hn8; omega)).mono ?_
              rintro e w29 ⟨rfl, hb29⟩
              have HQ29 := Lib.hid (HQ28.out.below hb29)
              have HB29 := Lib.hid (keep HB28.out hb29)
              clear hb29 HQ28 HB28 k0 k1 k2 k3 k4 k5
              have k0 : World.cell? _ ⟨pm, 0, none⟩ = some (.int .i64 t) := HQ29.out.blk.cell 0
              have k1 : World.cell? _ ⟨pm, 1, none⟩ = some (.slice (some AC) n cC) := HQ29.out.blk.cell 1
              have k2 : World.cell? _ ⟨pm, 2, none⟩ = some (.slice AW WW.length cW) := HQ29.out.blk.cell 2
              have k3 : World.cell? _ ⟨pm, 3, none⟩ = some (.slice (some AH) n cH) := HQ29.out.blk.cell 3
              have k4 : World.cell? _ ⟨pm, 4, none⟩ = some (.slice (some AG) n cF) := HQ29.out.blk.cell 4
              have k5 : World.cell? _ ⟨pm, 5, none⟩ = some (.slice (some AL) n cL) := HQ29.out.blk.cell 5
              rw [HY5.out.takeE, HTE.out]
              go_wp2_with fail
              have hcall := asyncTake lab5 A5 n t (costF m a b c) s5 x y w29 HQ29.out.an hn8 (fun i k hi hk => ⟨(cost_m HR.out).nonneg hi hk, (cost_m HR.out).high i k hi hk⟩) (HQ29.out.inv.asks HD0.out).1 (HQ29.out.inv.asks HD0.out).2 HQ29.out.inv.few
              rw [HP5.out, HTE.out] at hcall
              simp only [errV, HT0.out, if_false] at hcall
              refine hcall.mono ?_
              clear hcall
              rintro e w30 ⟨rfl, lab30, A30, hp30, hA30, hF30⟩
              rw [HS6.out] at hA30
              have HQ30 := Lib.hid (HQ29.out.turn hA30 HI6.out hF30)
              have HBL30 := Lib.hid (hF30.below HB29.out.size HLO5.out)
              have HB30 := Lib.hid (HB29.out.trans HBL30.out.1)
              have HLO30 := Lib.hid HBL30.out.2
              have HP30 := Lib.hid hp30
              clear hp30 hA30 hF30 HQ29 HB29 HBL30 k0 k1 k2 k3 k4 k5
              have k0 : World.cell? _ ⟨pm, 0, none⟩ = some (.int .i64 t) := HQ30.out.blk.cell 0
              have k1 : World.cell? _ ⟨pm, 1, none⟩ = some (.slice (some AC) n cC) := HQ30.out.blk.cell 1
              have k2 : World.cell? _ ⟨pm, 2, none⟩ = some (.slice AW WW.length cW) := HQ30.out.blk.cell 2
              have k3 : World.cell? _ ⟨pm, 3, none⟩ = some (.slice (some AH) n cH) := HQ30.out.blk.cell 3
              have k4 : World.cell? _ ⟨pm, 4, none⟩ = some (.slice (some AG) n cF) := HQ30.out.blk.cell 4
              have k5 : World.cell? _ ⟨pm, 5, none⟩ = some (.slice (some AL) n cL) := HQ30.out.blk.cell 5
              go_wp2_with fail
              refine (err_no te te true ⟨fun _ => rfl, fun _ => rfl⟩ w30 (HET.out.keep HB30.out)).mono ?_
              rintro e w31 ⟨rfl, hb31⟩
              have HQ31 := Lib.hid (HQ30.out.below hb31)
              have HB31 := Lib.hid (keep HB30.out hb31)
              clear hb31 HQ30 HB30 k0 k1 k2 k3 k4 k5
              have k0 : World.cell? _ ⟨pm, 0, none⟩ = some (.int .i64 t) := HQ31.out.blk.cell 0
              have k1 : World.cell? _ ⟨pm, 1, none⟩ = some (.slice (some AC) n cC) := HQ31.out.blk.cell 1
              have k2 : World.cell? _ ⟨pm, 2, none⟩ = some (.slice AW WW.length cW) := HQ31.out.blk.cell 2
              have k3 : World.cell? _ ⟨pm, 3, none⟩ = some (.slice (some AH) n cH) := HQ31.out.blk.cell 3
              have k4 : World.cell? _ ⟨pm, 4, none⟩ = some (.slice (some AG) n cF) := HQ31.out.blk.cell 4
              have k5 : World.cell? _ ⟨pm, 5, none⟩ = some (.slice (some AL) n cL) := HQ31.out.blk.cell 5
              go_wp2_with fail
              go_wp2_with fail
              go_loopw [29] (fun q wi => ∃ i : Nat, i ≤ n ∧ q = .int .i64 i ∧ wi = w31) (fun q _ => n - (intOf q).toNat)
              case atStart => exact ⟨0, by omega, rfl, rfl⟩
              case round =>
                obtain ⟨i, hi, rfl, hwi⟩ := hrel
                subst hwi
                by_cases hin7 : i < n
                · have hin7' : (i : Int) < n := by omega
                  have hcall := netDist i i rfl hin7 HQ31.out.an hn8
                  rw [HP30.out] at hcall
                  have c9 := (HQ31.out.qr.farAt hin7).2
                  rw [HY6.out.f] at c9
                  obtain ⟨dd, hdd⟩ : ∃ dd, s6.f i = dd := ⟨_, rfl⟩
                  rw [hdd] at hcall c9
                  have HC := Lib.hid hcall
                  clear hcall hdd
                  go_wp2_with fail
                  refine HC.out.mono ?_
                  rintro e w88 ⟨rfl, h8⟩
                  subst w88
                  clear HC
                  go_wp2_with fail
                  go_roundw
                  case rel => exact ⟨i + 1, by omega, by go_num, trivial⟩
                  case measure => simp [intOf]; omega
                · have hid7 : decide ((i : Int) < n) = false := decide_eq_false (by omega)
                  have hid8 : decide (n ≤ i) = true := decide_eq_true (by omega)
                  clear k0 k1 k2 k3 k4 k5
                  go_wp2_with fail
                  go_roundw
                  case rel => exact ⟨k + 1, by omega, by go_num, ⟨lab30, A30, s6, h5, f5, WW, _, HP30.out, HQ31.out, HY6.out, HLO30.out⟩, HB31.out⟩
                  case measure => simp [intOf]; omega
          | false =>
            obtain ⟨te, hte⟩ : ∃ te, s5.sendE n (costF m a b c) x y = te := ⟨_, rfl⟩
            have HTE := Lib.hid hte
            by_cases ht0 : te = 0
            · subst ht0
              have hs6 : s5.send n (costF m a b c) x y = s5.put x y := by
                unfold AS.send
                rw [hte, if_pos rfl, show ((x : Int)).toNat = x by omega, show ((y : Int)).toNat = y by omega]
              obtain ⟨s6, hs6'⟩ : ∃ s6, s5.send n (costF m a b c) x y = s6 := ⟨_, rfl⟩
              rw [hs6'] at hs6
              have HS6 := Lib.hid hs6'
              have HI6 : Hid (AInv n t (costF m a b c) (endF t a b c m) s6) := by
                rw [← hs6']
                exact Lib.hid (HI5.out.send x y)
              have hyc := HY5.out.put hx hy
              rw [← hs6] at hyc
              obtain ⟨WB, hWB⟩ : ∃ WB, WW ++ [(x, y, f5 x)] = WB := ⟨_, rfl⟩
              rw [hWB] at hyc
              have HWB := Lib.hid hWB
              have HY6 := Lib.hid hyc
              clear hs6 hs6' hyc hWB
              clear hte
              go_wp2_with fail
              refine HWA.out.mono ?_
              rintro e w9 ⟨rfl, h9⟩
              subst w9
              clear HWA
              go_wp2_with fail
              refine (qNear (fun b => lab5 b = [] ∧ b ≠ pm) _ n t (costF m a b c) h5 f5 (startF t) WW x y wo HQ.out.qr hn8).mono ?_
              rintro e w33 ⟨rfl, hb33⟩
              have HQ33 := Lib.hid (HQ.out.below hb33)
              have HB33 := Lib.hid (keep HB.out hb33)
              clear hb33 HQ HB k0 k1 k2 k3 k4 k5
              have k0 : World.cell? _ ⟨pm, 0, none⟩ = some (.int .i64 t) := HQ33.out.blk.cell 0
              have k1 : World.cell? _ ⟨pm, 1, none⟩ = some (.slice (some AC) n cC) := HQ33.out.blk.cell 1
              have k2 : World.cell? _ ⟨pm, 2, none⟩ = some (.slice AW WW.length cW) := HQ33.out.blk.cell 2
              have k3 : World.cell? _ ⟨pm, 3, none⟩ = some (.slice (some AH) n cH) := HQ33.out.blk.cell 3
              have k4 : World.cell? _ ⟨pm, 4, none⟩ = some (.slice (some AG) n cF) := HQ33.out.blk.cell 4
              have k5 : World.cell? _ ⟨pm, 5, none⟩ = some (.slice (some AL) n cL) := HQ33.out.blk.cell 5
              rw [HEN.out]
              go_wp2_with fail
              refine (err_nil 0 true ⟨fun _ => rfl, fun _ => rfl⟩ w33).mono ?_
              rintro e w34 ⟨rfl, hb34⟩
              have HQ34 := Lib.hid (HQ33.out.below hb34)
              have HB34 := Lib.hid (keep HB33.out hb34)
              clear hb34 HQ33 HB33 k0 k1 k2 k3 k4 k5
              have k0 : World.cell? _ ⟨pm, 0, none⟩ = some (.int .i64 t) := HQ34.out.blk.cell 0
              have k1 : World.cell? _ ⟨pm, 1, none⟩ = some (.slice (some AC) n cC) := HQ34.out.blk.cell 1
              have k2 : World.cell? _ ⟨pm, 2, none⟩ = some (.slice AW WW.length cW) := HQ34.out.blk.cell 2
              have k3 : World.cell? _ ⟨pm, 3, none⟩ = some (.slice (some AH) n cH) := HQ34.out.blk.cell 3
              have k4 : World.cell? _ ⟨pm, 4, none⟩ = some (.slice (some AG) n cF) := HQ34.out.blk.cell 4
              have k5 : World.cell? _ ⟨pm, 5, none⟩ = some (.slice (some AL) n cL) := HQ34.out.blk.cell 5
              go_wp2_with fail
              refine (qNear (fun b => lab5 b = [] ∧ b ≠ pm) _ n t (costF m a b c) h5 f5 (startF t) WW x y w34 HQ34.out.qr hn8).mono ?_
              rintro e w35 ⟨rfl, hb35⟩
              have HQ35 := Lib.hid (HQ34.out.below hb35)
              have HB35 := Lib.hid (keep HB34.out hb35)
              clear hb35 HQ34 HB34 k0 k1 k2 k3 k4 k5
              have k0 : World.cell? _ ⟨pm, 0, none⟩ = some (.int .i64 t) := HQ35.out.blk.cell 0
              have k1 : World.cell? _ ⟨pm, 1, none⟩ = some (.slice (some AC) n cC) := HQ35.out.blk.cell 1
              have k2 : World.cell? _ ⟨pm, 2, none⟩ = some (.slice AW WW.length cW) := HQ35.out.blk.cell 2
              have k3 : World.cell? _ ⟨pm, 3, none⟩ = some (.slice (some AH) n cH) := HQ35.out.blk.cell 3
              have k4 : World.cell? _ ⟨pm, 4, none⟩ = some (.slice (some AG) n cF) := HQ35.out.blk.cell 4
              have k5 : World.cell? _ ⟨pm, 5, none⟩ = some (.slice (some AL) n cL) := HQ35.out.blk.cell 5
              rw [HEN.out]
              go_wp2_with fail
              refine (qWaits (fun b => lab5 b = [] ∧ b ≠ pm) _ n t (costF m a b c) h5 f5 (startF t) WW x y x y rfl rfl w35 HQ35.out.qr (by have := HY5.out.len HI5.out hn8; omega)).mono ?_
              rintro e w36 ⟨rfl, hb36⟩
              have HQ36 := Lib.hid (HQ35.out.below hb36)
              have HB36 := Lib.hid (keep HB35.out hb36)
              clear hb36 HQ35 HB35 k0 k1 k2 k3 k4 k5
              have k0 : World.cell? _ ⟨pm, 0, none⟩ = some (.int .i64 t) := HQ36.out.blk.cell 0
              have k1 : World.cell? _ ⟨pm, 1, none⟩ = some (.slice (some AC) n cC) := HQ36.out.blk.cell 1
              have k2 : World.cell? _ ⟨pm, 2, none⟩ = some (.slice AW WW.length cW) := HQ36.out.blk.cell 2
              have k3 : World.cell? _ ⟨pm, 3, none⟩ = some (.slice (some AH) n cH) := HQ36.out.blk.cell 3
              have k4 : World.cell? _ ⟨pm, 4, none⟩ = some (.slice (some AG) n cF) := HQ36.out.blk.cell 4
              have k5 : World.cell? _ ⟨pm, 5, none⟩ = some (.slice (some AL) n cL) := HQ36.out.blk.cell 5
              rw [HLN.out]
              have ct1 := HCT.out _ HB36.out
              go_wp2_with fail
              refine (qSend (fun b => lab5 b = [] ∧ b ≠ pm) _ n t (costF m a b c) h5 f5 (startF t) WW x y w36 HQ36.out.qr hn8 (by have := HY5.out.len HI5.out hn8; omega)).mono ?_
              rintro e w37 ⟨rfl, hb37⟩
              have HQ37 := Lib.hid (HQ36.out.below hb37)
              have HB37 := Lib.hid (keep HB36.out hb37)
              clear hb37 HQ36 HB36 k0 k1 k2 k3 k4 k5
              have k0 : World.cell? _ ⟨pm, 0, none⟩ = some (.int .i64 t) := HQ37.out.blk.cell 0
              have k1 : World.cell? _ ⟨pm, 1, none⟩ = some (.slice (some AC) n cC) := HQ37.out.blk.cell 1
              have k2 : World.cell? _ ⟨pm, 2, none⟩ = some (.slice AW WW.length cW) := HQ37.out.blk.cell 2
              have k3 : World.cell? _ ⟨pm, 3, none⟩ = some (.slice (some AH) n cH) := HQ37.out.blk.cell 3
              have k4 : World.cell? _ ⟨pm, 4, none⟩ = some (.slice (some AG) n cF) := HQ37.out.blk.cell 4
              have k5 : World.cell? _ ⟨pm, 5, none⟩ = some (.slice (some AL) n cL) := HQ37.out.blk.cell 5
              rw [HY5.out.sendE, HTE.out]
              go_wp2_with fail
              have hcall := asyncSend lab5 A5 n t (costF m a b c) s5 x y w37 HQ37.out.an hn8
              rw [HP5.out, HTE.out] at hcall
              rw [errV_zero] at hcall
              refine hcall.mono ?_
              clear hcall
              rintro e w38 ⟨rfl, lab38, A38, hp38, hA38, hF38⟩
              rw [HS6.out] at hA38
              have HQ38 := Lib.hid (HQ37.out.turn hA38 HI6.out hF38)
              have HBL38 := Lib.hid (hF38.below HB37.out.size HLO5.out)
              have HB38 := Lib.hid (HB37.out.trans HBL38.out.1)
              have HLO38 := Lib.hid HBL38.out.2
              have HP38 := Lib.hid hp38
              clear hp38 hA38 hF38 HQ37 HB37 HBL38 k0 k1 k2 k3 k4 k5
              have k0 : World.cell? _ ⟨pm, 0, none⟩ = some (.int .i64 t) := HQ38.out.blk.cell 0
              have k1 : World.cell? _ ⟨pm, 1, none⟩ = some (.slice (some AC) n cC) := HQ38.out.blk.cell 1
              have k2 : World.cell? _ ⟨pm, 2, none⟩ = some (.slice AW WW.length cW) := HQ38.out.blk.cell 2
              have k3 : World.cell? _ ⟨pm, 3, none⟩ = some (.slice (some AH) n cH) := HQ38.out.blk.cell 3
              have k4 : World.cell? _ ⟨pm, 4, none⟩ = some (.slice (some AG) n cF) := HQ38.out.blk.cell 4
              have k5 : World.cell? _ ⟨pm, 5, none⟩ = some (.slice (some AL) n cL) := HQ38.out.blk.cell 5
              go_wp2_with fail
              refine (err_nil 0 true ⟨fun _ => rfl, fun _ => rfl⟩ w38).mono ?_
              rintro e w39 ⟨rfl, hb39⟩
              have HQ39 := Lib.hid (HQ38.out.below hb39)
              have HB39 := Lib.hid (keep HB38.out hb39)
              clear hb39 HQ38 HB38 k0 k1 k2 k3 k4 k5
              have k0 : World.cell? _ ⟨pm, 0, none⟩ = some (.int .i64 t) := HQ39.out.blk.cell 0
              have k1 : World.cell? _ ⟨pm, 1, none⟩ = some (.slice (some AC) n cC) := HQ39.out.blk.cell 1
              have k2 : World.cell? _ ⟨pm, 2, none⟩ = some (.slice AW WW.length cW) := HQ39.out.blk.cell 2
              have k3 : World.cell? _ ⟨pm, 3, none⟩ = some (.slice (some AH) n cH) := HQ39.out.blk.cell 3
              have k4 : World.cell? _ ⟨pm, 4, none⟩ = some (.slice (some AG) n cF) := HQ39.out.blk.cell 4
              have k5 : World.cell? _ ⟨pm, 5, none⟩ = some (.slice (some AL) n cL) := HQ39.out.blk.cell 5
              go_wp2_with fail
              refine (qSending (fun b => lab38 b = [] ∧ b ≠ pm) _ n t (costF m a b c) h5 f5 (startF t) WW x y w39 HQ39.out.qr hn1 hn8 (by have := HLEN.out; omega) hx).mono ?_
              rintro e w40 ⟨v40, rfl, hv40, hb40⟩
              have HL40 := Lib.hid (HQ39.out.an.free)
              have HPL40 := Lib.hid (HQ39.out.blk.lt)
              have HQ40 := Lib.hid (HQ39.out.below hb40)
              have HB40 := Lib.hid (keep HB39.out hb40)
              clear hb40 HQ39 HB39 k0 k1 k2 k3 k4 k5
              have k0 : World.cell? _ ⟨pm, 0, none⟩ = some (.int .i64 t) := HQ40.out.blk.cell 0
              have k1 : World.cell? _ ⟨pm, 1, none⟩ = some (.slice (some AC) n cC) := HQ40.out.blk.cell 1
              have k2 : World.cell? _ ⟨pm, 2, none⟩ = some (.slice AW WW.length cW) := HQ40.out.blk.cell 2
              have k3 : World.cell? _ ⟨pm, 3, none⟩ = some (.slice (some AH) n cH) := HQ40.out.blk.cell 3
              have k4 : World.cell? _ ⟨pm, 4, none⟩ = some (.slice (some AG) n cF) := HQ40.out.blk.cell 4
              have k5 : World.cell? _ ⟨pm, 5, none⟩ = some (.slice (some AL) n cL) := HQ40.out.blk.cell 5
              rw [HWB.out] at hv40
              have hvv := hv40
              obtain ⟨ACc, cCc, AWc, cWc, AHc, cHc, AGc, cFc, ALc, cLc, rfl, -⟩ := hvv
              have hq41 := HQ40.out.put hv40 HPL40.out HL40.out
              have HP41 := Lib.hid HQ40.out.blk
              have HB41 : Hid (Below w.heap.size w (World.setRow _ pm _)) := below_setRow0 HB40.out HPM.out #[.int .i64 t, .slice (some ACc) n cCc, .slice AWc WB.length cWc, .slice (some AHc) n cHc, .slice (some AGc) n cFc, .slice (some ALc) n cLc]
              have HQ41 := Lib.hid hq41
              clear hq41 HQ40 HB40 k0 k1 k2 k3 k4 k5
              have k0 : World.cell? _ ⟨pm, 0, none⟩ = some (.int .i64 t) := HQ41.out.blk.cell 0
              have k1 : World.cell? _ ⟨pm, 1, none⟩ = some (.slice (some ACc) n cCc) := HQ41.out.blk.cell 1
              have k2 : World.cell? _ ⟨pm, 2, none⟩ = some (.slice AWc WB.length cWc) := HQ41.out.blk.cell 2
              have k3 : World.cell? _ ⟨pm, 3, none⟩ = some (.slice (some AHc) n cHc) := HQ41.out.blk.cell 3
              have k4 : World.cell? _ ⟨pm, 4, none⟩ = some (.slice (some AGc) n cFc) := HQ41.out.blk.cell 4
              have k5 : World.cell? _ ⟨pm, 5, none⟩ = some (.slice (some ALc) n cLc) := HQ41.out.blk.cell 5
              go_wp2_with (refine wpList_store_row rfl 37 (.tmp 18) (.tmp 177) rfl pm #[.int .i64 t, .slice (some ACc) n cCc, .slice AWc WB.length cWc, .slice (some AHc) n cHc, .slice (some AGc) n cFc, .slice (some ALc) n cLc] rfl rfl _ _ HP41.out (by kernel_rfl) rfl (by simp [Value.oneCell']) ?_)
              obtain ⟨w42, hw42⟩ : ∃ w', World.setRow w40 pm #[.int .i64 t, .slice (some ACc) n cCc, .slice AWc WB.length cWc, .slice (some AHc) n cHc, .slice (some AGc) n cFc, .slice (some ALc) n cLc] = w' := ⟨_, rfl⟩
              rw [hw42] at HQ41 HB41 k0 k1 k2 k3 k4 k5 ⊢
              clear hw42 HP41
              go_wp2_with fail
              go_loopw [29] (fun q wi => ∃ i : Nat, i ≤ n ∧ q = .int .i64 i ∧ wi = w42) (fun q _ => n - (intOf q).toNat)
              case atStart => exact ⟨0, by omega, rfl, rfl⟩
              case round =>
                obtain ⟨i, hi, rfl, hwi⟩ := hrel
                subst hwi
                by_cases hin7 : i < n
                · have hin7' : (i : Int) < n := by omega
                  have hcall := netDist i i rfl hin7 HQ41.out.an hn8
                  rw [HP38.out] at hcall
                  have c9 := (HQ41.out.qr.farAt hin7).2
                  rw [HY6.out.f] at c9
                  obtain ⟨dd, hdd⟩ : ∃ dd, s6.f i = dd := ⟨_, rfl⟩
                  rw [hdd] at hcall c9
                  have HC := Lib.hid hcall
                  clear hcall hdd
                  go_wp2_with fail
                  refine HC.out.mono ?_
                  rintro e w88 ⟨rfl, h8⟩
                  subst w88
                  clear HC
                  go_wp2_with fail
                  go_roundw
                  case rel => exact ⟨i + 1, by omega, by go_num, trivial⟩
                  case measure => simp [intOf]; omega
                · have hid7 : decide ((i : Int) < n) = false := decide_eq_false (by omega)
                  have hid8 : decide (n ≤ i) = true := decide_eq_true (by omega)
                  clear k0 k1 k2 k3 k4 k5
                  go_wp2_with fail
                  go_roundw
                  case rel => exact ⟨k + 1, by omega, by go_num, ⟨lab38, A38, s6, h5, f5, WB, _, HP38.out, HQ41.out, HY6.out, HLO38.out⟩, HB41.out⟩
                  case measure => simp [intOf]; omega
            · have ht00 := ht0
              have HS6 : Hid (s5.send n (costF m a b c) x y = s5) := by
                unfold AS.send
                rw [if_neg (fun hc => ht0 (hte.symm.trans hc))]
                exact Lib.hid rfl
              obtain ⟨s6, hs66⟩ : ∃ s6, s5 = s6 := ⟨_, rfl⟩
              have HI6 : Hid (AInv n t (costF m a b c) (endF t a b c m) s6) := hs66 ▸ HI5.out
              have HY6 : Hid (Syn n s6 h5 f5 WW) := hs66 ▸ HY5.out
              have HS6' : Hid (s5.send n (costF m a b c) x y = s6) := hs66 ▸ HS6.out
              clear HS6 hs66
              have HS6 := HS6'
              clear HS6'
              have htb : (te == 0) = false := beq_false_of_ne ht0
              have HT0 := Lib.hid ht0
              clear hte ht0 ht00
              go_wp2_with fail
              refine HWA.out.mono ?_
              rintro e w9 ⟨rfl, h9⟩
              subst w9
              clear HWA
              go_wp2_with fail
              refine (qNear (fun b => lab5 b = [] ∧ b ≠ pm) _ n t (costF m a b c) h5 f5 (startF t) WW x y wo HQ.out.qr hn8).mono ?_
              rintro e w44 ⟨rfl, hb44⟩
              have HQ44 := Lib.hid (HQ.out.below hb44)
              have HB44 := Lib.hid (keep HB.out hb44)
              clear hb44 HQ HB k0 k1 k2 k3 k4 k5
              have k0 : World.cell? _ ⟨pm, 0, none⟩ = some (.int .i64 t) := HQ44.out.blk.cell 0
              have k1 : World.cell? _ ⟨pm, 1, none⟩ = some (.slice (some AC) n cC) := HQ44.out.blk.cell 1
              have k2 : World.cell? _ ⟨pm, 2, none⟩ = some (.slice AW WW.length cW) := HQ44.out.blk.cell 2
              have k3 : World.cell? _ ⟨pm, 3, none⟩ = some (.slice (some AH) n cH) := HQ44.out.blk.cell 3
              have k4 : World.cell? _ ⟨pm, 4, none⟩ = some (.slice (some AG) n cF) := HQ44.out.blk.cell 4
              have k5 : World.cell? _ ⟨pm, 5, none⟩ = some (.slice (some AL) n cL) := HQ44.out.blk.cell 5
              rw [HEN.out]
              go_wp2_with fail
              refine (err_nil 0 true ⟨fun _ => rfl, fun _ => rfl⟩ w44).mono ?_
              rintro e w45 ⟨rfl, hb45⟩
              have HQ45 := Lib.hid (HQ44.out.below hb45)
              have HB45 := Lib.hid (keep HB44.out hb45)
              clear hb45 HQ44 HB44 k0 k1 k2 k3 k4 k5
              have k0 : World.cell? _ ⟨pm, 0, none⟩ = some (.int .i64 t) := HQ45.out.blk.cell 0
              have k1 : World.cell? _ ⟨pm, 1, none⟩ = some (.slice (some AC) n cC) := HQ45.out.blk.cell 1
              have k2 : World.cell? _ ⟨pm, 2, none⟩ = some (.slice AW WW.length cW) := HQ45.out.blk.cell 2
              have k3 : World.cell? _ ⟨pm, 3, none⟩ = some (.slice (some AH) n cH) := HQ45.out.blk.cell 3
              have k4 : World.cell? _ ⟨pm, 4, none⟩ = some (.slice (some AG) n cF) := HQ45.out.blk.cell 4
              have k5 : World.cell? _ ⟨pm, 5, none⟩ = some (.slice (some AL) n cL) := HQ45.out.blk.cell 5
              go_wp2_with fail
              refine (qNear (fun b => lab5 b = [] ∧ b ≠ pm) _ n t (costF m a b c) h5 f5 (startF t) WW x y w45 HQ45.out.qr hn8).mono ?_
              rintro e w46 ⟨rfl, hb46⟩
              have HQ46 := Lib.hid (HQ45.out.below hb46)
              have HB46 := Lib.hid (keep HB45.out hb46)
              clear hb46 HQ45 HB45 k0 k1 k2 k3 k4 k5
              have k0 : World.cell? _ ⟨pm, 0, none⟩ = some (.int .i64 t) := HQ46.out.blk.cell 0
              have k1 : World.cell? _ ⟨pm, 1, none⟩ = some (.slice (some AC) n cC) := HQ46.out.blk.cell 1
              have k2 : World.cell? _ ⟨pm, 2, none⟩ = some (.slice AW WW.length cW) := HQ46.out.blk.cell 2
              have k3 : World.cell? _ ⟨pm, 3, none⟩ = some (.slice (some AH) n cH) := HQ46.out.blk.cell 3
              have k4 : World.cell? _ ⟨pm, 4, none⟩ = some (.slice (some AG) n cF) := HQ46.out.blk.cell 4
              have k5 : World.cell? _ ⟨pm, 5, none⟩ = some (.slice (some AL) n cL) := HQ46.out.blk.cell 5
              rw [HEN.out]
              go_wp2_with fail
              refine (qWaits (fun b => lab5 b = [] ∧ b ≠ pm) _ n t (costF m a b c) h5 f5 (startF t) WW x y x y rfl rfl w46 HQ46.out.qr (by have := HY5.out.len HI5.out hn8; omega)).mono ?_
              rintro e w47 ⟨rfl, hb47⟩
              have HQ47 := Lib.hid (HQ46.out.below hb47)
              have HB47 := Lib.hid (keep HB46.out hb47)
              clear hb47 HQ46 HB46 k0 k1 k2 k3 k4 k5
              have k0 : World.cell? _ ⟨pm, 0, none⟩ = some (.int .i64 t) := HQ47.out.blk.cell 0
              have k1 : World.cell? _ ⟨pm, 1, none⟩ = some (.slice (some AC) n cC) := HQ47.out.blk.cell 1
              have k2 : World.cell? _ ⟨pm, 2, none⟩ = some (.slice AW WW.length cW) := HQ47.out.blk.cell 2
              have k3 : World.cell? _ ⟨pm, 3, none⟩ = some (.slice (some AH) n cH) := HQ47.out.blk.cell 3
              have k4 : World.cell? _ ⟨pm, 4, none⟩ = some (.slice (some AG) n cF) := HQ47.out.blk.cell 4
              have k5 : World.cell? _ ⟨pm, 5, none⟩ = some (.slice (some AL) n cL) := HQ47.out.blk.cell 5
              rw [HLN.out]
              have ct1 := HCT.out _ HB47.out
              go_wp2_with fail
              refine (qSend (fun b => lab5 b = [] ∧ b ≠ pm) _ n t (costF m a b c) h5 f5 (startF t) WW x y w47 HQ47.out.qr hn8 (by have := HY5.out.len HI5.out hn8; omega)).mono ?_
              rintro e w48 ⟨rfl, hb48⟩
              have HQ48 := Lib.hid (HQ47.out.below hb48)
              have HB48 := Lib.hid (keep HB47.out hb48)
              clear hb48 HQ47 HB47 k0 k1 k2 k3 k4 k5
              have k0 : World.cell? _ ⟨pm, 0, none⟩ = some (.int .i64 t) := HQ48.out.blk.cell 0
              have k1 : World.cell? _ ⟨pm, 1, none⟩ = some (.slice (some AC) n cC) := HQ48.out.blk.cell 1
              have k2 : World.cell? _ ⟨pm, 2, none⟩ = some (.slice AW WW.length cW) := HQ48.out.blk.cell 2
              have k3 : World.cell? _ ⟨pm, 3, none⟩ = some (.slice (some AH) n cH) := HQ48.out.blk.cell 3
              have k4 : World.cell? _ ⟨pm, 4, none⟩ = some (.slice (some AG) n cF) := HQ48.out.blk.cell 4
              have k5 : World.cell? _ ⟨pm, 5, none⟩ = some (.slice (some AL) n cL) := HQ48.out.blk.cell 5
              rw [HY5.out.sendE, HTE.out]
              go_wp2_with fail
              have hcall := asyncSend lab5 A5 n t (costF m a b c) s5 x y w48 HQ48.out.an hn8
              rw [HP5.out, HTE.out] at hcall
              simp only [errV, HT0.out, if_false] at hcall
              refine hcall.mono ?_
              clear hcall
              rintro e w49 ⟨rfl, lab49, A49, hp49, hA49, hF49⟩
              rw [HS6.out] at hA49
              have HQ49 := Lib.hid (HQ48.out.turn hA49 HI6.out hF49)
              have HBL49 := Lib.hid (hF49.below HB48.out.size HLO5.out)
              have HB49 := Lib.hid (HB48.out.trans HBL49.out.1)
              have HLO49 := Lib.hid HBL49.out.2
              have HP49 := Lib.hid hp49
              clear hp49 hA49 hF49 HQ48 HB48 HBL49 k0 k1 k2 k3 k4 k5
              have k0 : World.cell? _ ⟨pm, 0, none⟩ = some (.int .i64 t) := HQ49.out.blk.cell 0
              have k1 : World.cell? _ ⟨pm, 1, none⟩ = some (.slice (some AC) n cC) := HQ49.out.blk.cell 1
              have k2 : World.cell? _ ⟨pm, 2, none⟩ = some (.slice AW WW.length cW) := HQ49.out.blk.cell 2
              have k3 : World.cell? _ ⟨pm, 3, none⟩ = some (.slice (some AH) n cH) := HQ49.out.blk.cell 3
              have k4 : World.cell? _ ⟨pm, 4, none⟩ = some (.slice (some AG) n cF) := HQ49.out.blk.cell 4
              have k5 : World.cell? _ ⟨pm, 5, none⟩ = some (.slice (some AL) n cL) := HQ49.out.blk.cell 5
              go_wp2_with fail
              refine (err_no te te true ⟨fun _ => rfl, fun _ => rfl⟩ w49 (HET.out.keep HB49.out)).mono ?_
              rintro e w50 ⟨rfl, hb50⟩
              have HQ50 := Lib.hid (HQ49.out.below hb50)
              have HB50 := Lib.hid (keep HB49.out hb50)
              clear hb50 HQ49 HB49 k0 k1 k2 k3 k4 k5
              have k0 : World.cell? _ ⟨pm, 0, none⟩ = some (.int .i64 t) := HQ50.out.blk.cell 0
              have k1 : World.cell? _ ⟨pm, 1, none⟩ = some (.slice (some AC) n cC) := HQ50.out.blk.cell 1
              have k2 : World.cell? _ ⟨pm, 2, none⟩ = some (.slice AW WW.length cW) := HQ50.out.blk.cell 2
              have k3 : World.cell? _ ⟨pm, 3, none⟩ = some (.slice (some AH) n cH) := HQ50.out.blk.cell 3
              have k4 : World.cell? _ ⟨pm, 4, none⟩ = some (.slice (some AG) n cF) := HQ50.out.blk.cell 4
              have k5 : World.cell? _ ⟨pm, 5, none⟩ = some (.slice (some AL) n cL) := HQ50.out.blk.cell 5
              go_wp2_with fail
              go_wp2_with fail
              go_loopw [29] (fun q wi => ∃ i : Nat, i ≤ n ∧ q = .int .i64 i ∧ wi = w50) (fun q _ => n - (intOf q).toNat)
              case atStart => exact ⟨0, by omega, rfl, rfl⟩
              case round =>
                obtain ⟨i, hi, rfl, hwi⟩ := hrel
                subst hwi
                by_cases hin7 : i < n
                · have hin7' : (i : Int) < n := by omega
                  have hcall := netDist i i rfl hin7 HQ50.out.an hn8
                  rw [HP49.out] at hcall
                  have c9 := (HQ50.out.qr.farAt hin7).2
                  rw [HY6.out.f] at c9
                  obtain ⟨dd, hdd⟩ : ∃ dd, s6.f i = dd := ⟨_, rfl⟩
                  rw [hdd] at hcall c9
                  have HC := Lib.hid hcall
                  clear hcall hdd
                  go_wp2_with fail
                  refine HC.out.mono ?_
                  rintro e w88 ⟨rfl, h8⟩
                  subst w88
                  clear HC
                  go_wp2_with fail
                  go_roundw
                  case rel => exact ⟨i + 1, by omega, by go_num, trivial⟩
                  case measure => simp [intOf]; omega
                · have hid7 : decide ((i : Int) < n) = false := decide_eq_false (by omega)
                  have hid8 : decide (n ≤ i) = true := decide_eq_true (by omega)
                  clear k0 k1 k2 k3 k4 k5
                  go_wp2_with fail
                  go_roundw
                  case rel => exact ⟨k + 1, by omega, by go_num, ⟨lab49, A49, s6, h5, f5, WW, _, HP49.out, HQ50.out, HY6.out, HLO49.out⟩, HB50.out⟩
                  case measure => simp [intOf]; omega
        · have hnb : (en == 0) = false := beq_false_of_ne hn0
          rw [if_neg hn0] at hwa
          have HWA := Lib.hid hwa
          have HN0 := Lib.hid hn0
          clear hwa hen hn0
          cases tk with
          | true =>
            obtain ⟨te, hte⟩ : ∃ te, s5.takeE n (costF m a b c) av bv = te := ⟨_, rfl⟩
            have HTE := Lib.hid hte
            have ht0 : te ≠ 0 := by
              rw [← hte]
              unfold AS.takeE
              rw [if_neg (fun hc => HN0.out (HEN.out.symm.trans hc.1)), HEN.out]
              exact HN0.out
            have HS6 : Hid (s5.take n t (costF m a b c) av bv = s5) := by
              unfold AS.take
              rw [if_neg (fun hc => ht0 (hte.symm.trans hc))]
              exact Lib.hid rfl
            obtain ⟨s6, hs66⟩ : ∃ s6, s5 = s6 := ⟨_, rfl⟩
            have HI6 : Hid (AInv n t (costF m a b c) (endF t a b c m) s6) := hs66 ▸ HI5.out
            have HY6 : Hid (Syn n s6 h5 f5 WW) := hs66 ▸ HY5.out
            have HS6' : Hid (s5.take n t (costF m a b c) av bv = s6) := hs66 ▸ HS6.out
            clear HS6 hs66
            have HS6 := HS6'
            clear HS6'
            have htb : (te == 0) = false := beq_false_of_ne ht0
            have HT0 := Lib.hid ht0
            clear hte ht0
            go_wp2_with fail
            refine HWA.out.mono ?_
            rintro e w9 ⟨rfl, h9⟩
            subst w9
            clear HWA
            go_wp2_with fail
            refine (qNear (fun b => lab5 b = [] ∧ b ≠ pm) _ n t (costF m a b c) h5 f5 (startF t) WW av bv wo HQ.out.qr hn8).mono ?_
            rintro e w52 ⟨rfl, hb52⟩
            have HQ52 := Lib.hid (HQ.out.below hb52)
            have HB52 := Lib.hid (keep HB.out hb52)
            clear hb52 HQ HB k0 k1 k2 k3 k4 k5
            have k0 : World.cell? _ ⟨pm, 0, none⟩ = some (.int .i64 t) := HQ52.out.blk.cell 0
            have k1 : World.cell? _ ⟨pm, 1, none⟩ = some (.slice (some AC) n cC) := HQ52.out.blk.cell 1
            have k2 : World.cell? _ ⟨pm, 2, none⟩ = some (.slice AW WW.length cW) := HQ52.out.blk.cell 2
            have k3 : World.cell? _ ⟨pm, 3, none⟩ = some (.slice (some AH) n cH) := HQ52.out.blk.cell 3
            have k4 : World.cell? _ ⟨pm, 4, none⟩ = some (.slice (some AG) n cF) := HQ52.out.blk.cell 4
            have k5 : World.cell? _ ⟨pm, 5, none⟩ = some (.slice (some AL) n cL) := HQ52.out.blk.cell 5
            rw [HEN.out]
            go_wp2_with fail
            refine (err_no en en true ⟨fun _ => rfl, fun _ => rfl⟩ w52 (HET.out.keep HB52.out)).mono ?_
            rintro e w53 ⟨rfl, hb53⟩
            have HQ53 := Lib.hid (HQ52.out.below hb53)
            have HB53 := Lib.hid (keep HB52.out hb53)
            clear hb53 HQ52 HB52 k0 k1 k2 k3 k4 k5
            have k0 : World.cell? _ ⟨pm, 0, none⟩ = some (.int .i64 t) := HQ53.out.blk.cell 0
            have k1 : World.cell? _ ⟨pm, 1, none⟩ = some (.slice (some AC) n cC) := HQ53.out.blk.cell 1
            have k2 : World.cell? _ ⟨pm, 2, none⟩ = some (.slice AW WW.length cW) := HQ53.out.blk.cell 2
            have k3 : World.cell? _ ⟨pm, 3, none⟩ = some (.slice (some AH) n cH) := HQ53.out.blk.cell 3
            have k4 : World.cell? _ ⟨pm, 4, none⟩ = some (.slice (some AG) n cF) := HQ53.out.blk.cell 4
            have k5 : World.cell? _ ⟨pm, 5, none⟩ = some (.slice (some AL) n cL) := HQ53.out.blk.cell 5
            go_wp2_with fail
            refine (qNear (fun b => lab5 b = [] ∧ b ≠ pm) _ n t (costF m a b c) h5 f5 (startF t) WW av bv w53 HQ53.out.qr hn8).mono ?_
            rintro e w54 ⟨rfl, hb54⟩
            have HQ54 := Lib.hid (HQ53.out.below hb54)
            have HB54 := Lib.hid (keep HB53.out hb54)
            clear hb54 HQ53 HB53 k0 k1 k2 k3 k4 k5
            have k0 : World.cell? _ ⟨pm, 0, none⟩ = some (.int .i64 t) := HQ54.out.blk.cell 0
            have k1 : World.cell? _ ⟨pm, 1, none⟩ = some (.slice (some AC) n cC) := HQ54.out.blk.cell 1
            have k2 : World.cell? _ ⟨pm, 2, none⟩ = some (.slice AW WW.length cW) := HQ54.out.blk.cell 2
            have k3 : World.cell? _ ⟨pm, 3, none⟩ = some (.slice (some AH) n cH) := HQ54.out.blk.cell 3
            have k4 : World.cell? _ ⟨pm, 4, none⟩ = some (.slice (some AG) n cF) := HQ54.out.blk.cell 4
            have k5 : World.cell? _ ⟨pm, 5, none⟩ = some (.slice (some AL) n cL) := HQ54.out.blk.cell 5
            rw [HEN.out]
            have ct1 := HCT.out _ HB54.out
            go_wp2_with fail
            refine (qTake (fun b => lab5 b = [] ∧ b ≠ pm) _ n t (costF m a b c) h5 f5 (startF t) WW av bv w54 HQ54.out.qr hn8 (by have := HY5.out.len HI5.out hn8; omega)).mono ?_
            rintro e w55 ⟨rfl, hb55⟩
            have HQ55 := Lib.hid (HQ54.out.below hb55)
            have HB55 := Lib.hid (keep HB54.out hb55)
            clear hb55 HQ54 HB54 k0 k1 k2 k3 k4 k5
            have k0 : World.cell? _ ⟨pm, 0, none⟩ = some (.int .i64 t) := HQ55.out.blk.cell 0
            have k1 : World.cell? _ ⟨pm, 1, none⟩ = some (.slice (some AC) n cC) := HQ55.out.blk.cell 1
            have k2 : World.cell? _ ⟨pm, 2, none⟩ = some (.slice AW WW.length cW) := HQ55.out.blk.cell 2
            have k3 : World.cell? _ ⟨pm, 3, none⟩ = some (.slice (some AH) n cH) := HQ55.out.blk.cell 3
            have k4 : World.cell? _ ⟨pm, 4, none⟩ = some (.slice (some AG) n cF) := HQ55.out.blk.cell 4
            have k5 : World.cell? _ ⟨pm, 5, none⟩ = some (.slice (some AL) n cL) := HQ55.out.blk.cell 5
            rw [HY5.out.takeE, HTE.out]
            go_wp2_with fail
            have hcall := asyncTake lab5 A5 n t (costF m a b c) s5 av bv w55 HQ55.out.an hn8 (fun i k hi hk => ⟨(cost_m HR.out).nonneg hi hk, (cost_m HR.out).high i k hi hk⟩) (HQ55.out.inv.asks HD0.out).1 (HQ55.out.inv.asks HD0.out).2 HQ55.out.inv.few
            rw [HP5.out, HTE.out] at hcall
            simp only [errV, HT0.out, if_false] at hcall
            refine hcall.mono ?_
            clear hcall
            rintro e w56 ⟨rfl, lab56, A56, hp56, hA56, hF56⟩
            rw [HS6.out] at hA56
            have HQ56 := Lib.hid (HQ55.out.turn hA56 HI6.out hF56)
            have HBL56 := Lib.hid (hF56.below HB55.out.size HLO5.out)
            have HB56 := Lib.hid (HB55.out.trans HBL56.out.1)
            have HLO56 := Lib.hid HBL56.out.2
            have HP56 := Lib.hid hp56
            clear hp56 hA56 hF56 HQ55 HB55 HBL56 k0 k1 k2 k3 k4 k5
            have k0 : World.cell? _ ⟨pm, 0, none⟩ = some (.int .i64 t) := HQ56.out.blk.cell 0
            have k1 : World.cell? _ ⟨pm, 1, none⟩ = some (.slice (some AC) n cC) := HQ56.out.blk.cell 1
            have k2 : World.cell? _ ⟨pm, 2, none⟩ = some (.slice AW WW.length cW) := HQ56.out.blk.cell 2
            have k3 : World.cell? _ ⟨pm, 3, none⟩ = some (.slice (some AH) n cH) := HQ56.out.blk.cell 3
            have k4 : World.cell? _ ⟨pm, 4, none⟩ = some (.slice (some AG) n cF) := HQ56.out.blk.cell 4
            have k5 : World.cell? _ ⟨pm, 5, none⟩ = some (.slice (some AL) n cL) := HQ56.out.blk.cell 5
            go_wp2_with fail
            refine (err_no te te true ⟨fun _ => rfl, fun _ => rfl⟩ w56 (HET.out.keep HB56.out)).mono ?_
            rintro e w57 ⟨rfl, hb57⟩
            have HQ57 := Lib.hid (HQ56.out.below hb57)
            have HB57 := Lib.hid (keep HB56.out hb57)
            clear hb57 HQ56 HB56 k0 k1 k2 k3 k4 k5
            have k0 : World.cell? _ ⟨pm, 0, none⟩ = some (.int .i64 t) := HQ57.out.blk.cell 0
            have k1 : World.cell? _ ⟨pm, 1, none⟩ = some (.slice (some AC) n cC) := HQ57.out.blk.cell 1
            have k2 : World.cell? _ ⟨pm, 2, none⟩ = some (.slice AW WW.length cW) := HQ57.out.blk.cell 2
            have k3 : World.cell? _ ⟨pm, 3, none⟩ = some (.slice (some AH) n cH) := HQ57.out.blk.cell 3
            have k4 : World.cell? _ ⟨pm, 4, none⟩ = some (.slice (some AG) n cF) := HQ57.out.blk.cell 4
            have k5 : World.cell? _ ⟨pm, 5, none⟩ = some (.slice (some AL) n cL) := HQ57.out.blk.cell 5
            go_wp2_with fail
            go_wp2_with fail
            go_loopw [29] (fun q wi => ∃ i : Nat, i ≤ n ∧ q = .int .i64 i ∧ wi = w57) (fun q _ => n - (intOf q).toNat)
            case atStart => exact ⟨0, by omega, rfl, rfl⟩
            case round =>
              obtain ⟨i, hi, rfl, hwi⟩ := hrel
              subst hwi
              by_cases hin7 : i < n
              · have hin7' : (i : Int) < n := by omega
                have hcall := netDist i i rfl hin7 HQ57.out.an hn8
                rw [HP56.out] at hcall
                have c9 := (HQ57.out.qr.farAt hin7).2
                rw [HY6.out.f] at c9
                obtain ⟨dd, hdd⟩ : ∃ dd, s6.f i = dd := ⟨_, rfl⟩
                rw [hdd] at hcall c9
                have HC := Lib.hid hcall
                clear hcall hdd
                go_wp2_with fail
                refine HC.out.mono ?_
                rintro e w88 ⟨rfl, h8⟩
                subst w88
                clear HC
                go_wp2_with fail
                go_roundw
                case rel => exact ⟨i + 1, by omega, by go_num, trivial⟩
                case measure => simp [intOf]; omega
              · have hid7 : decide ((i : Int) < n) = false := decide_eq_false (by omega)
                have hid8 : decide (n ≤ i) = true := decide_eq_true (by omega)
                clear k0 k1 k2 k3 k4 k5
                go_wp2_with fail
                go_roundw
                case rel => exact ⟨k + 1, by omega, by go_num, ⟨lab56, A56, s6, h5, f5, WW, _, HP56.out, HQ57.out, HY6.out, HLO56.out⟩, HB57.out⟩
                case measure => simp [intOf]; omega
          | false =>
            obtain ⟨te, hte⟩ : ∃ te, s5.sendE n (costF m a b c) av bv = te := ⟨_, rfl⟩
            have HTE := Lib.hid hte
            have ht0 : te ≠ 0 := by
              rw [← hte]
              unfold AS.sendE
              rw [if_neg (fun hc => HN0.out (HEN.out.symm.trans hc.1)), HEN.out]
              exact HN0.out
            have HS6 : Hid (s5.send n (costF m a b c) av bv = s5) := by
              unfold AS.send
              rw [if_neg (fun hc => ht0 (hte.symm.trans hc))]
              exact Lib.hid rfl
            obtain ⟨s6, hs66⟩ : ∃ s6, s5 = s6 := ⟨_, rfl⟩
            have HI6 : Hid (AInv n t (costF m a b c) (endF t a b c m) s6) := hs66 ▸ HI5.out
            have HY6 : Hid (Syn n s6 h5 f5 WW) := hs66 ▸ HY5.out
            have HS6' : Hid (s5.send n (costF m a b c) av bv = s6) := hs66 ▸ HS6.out
            clear HS6 hs66
            have HS6 := HS6'
            clear HS6'
            have htb : (te == 0) = false := beq_false_of_ne ht0
            have HT0 := Lib.hid ht0
            clear hte ht0
            go_wp2_with fail
            refine HWA.out.mono ?_
            rintro e w9 ⟨rfl, h9⟩
            subst w9
            clear HWA
            go_wp2_with fail
            refine (qNear (fun b => lab5 b = [] ∧ b ≠ pm) _ n t (costF m a b c) h5 f5 (startF t) WW av bv wo HQ.out.qr hn8).mono ?_
            rintro e w59 ⟨rfl, hb59⟩
            have HQ59 := Lib.hid (HQ.out.below hb59)
            have HB59 := Lib.hid (keep HB.out hb59)
            clear hb59 HQ HB k0 k1 k2 k3 k4 k5
            have k0 : World.cell? _ ⟨pm, 0, none⟩ = some (.int .i64 t) := HQ59.out.blk.cell 0
            have k1 : World.cell? _ ⟨pm, 1, none⟩ = some (.slice (some AC) n cC) := HQ59.out.blk.cell 1
            have k2 : World.cell? _ ⟨pm, 2, none⟩ = some (.slice AW WW.length cW) := HQ59.out.blk.cell 2
            have k3 : World.cell? _ ⟨pm, 3, none⟩ = some (.slice (some AH) n cH) := HQ59.out.blk.cell 3
            have k4 : World.cell? _ ⟨pm, 4, none⟩ = some (.slice (some AG) n cF) := HQ59.out.blk.cell 4
            have k5 : World.cell? _ ⟨pm, 5, none⟩ = some (.slice (some AL) n cL) := HQ59.out.blk.cell 5
            rw [HEN.out]
            go_wp2_with fail
            refine (err_no en en true ⟨fun _ => rfl, fun _ => rfl⟩ w59 (HET.out.keep HB59.out)).mono ?_
            rintro e w60 ⟨rfl, hb60⟩
            have HQ60 := Lib.hid (HQ59.out.below hb60)
            have HB60 := Lib.hid (keep HB59.out hb60)
            clear hb60 HQ59 HB59 k0 k1 k2 k3 k4 k5
            have k0 : World.cell? _ ⟨pm, 0, none⟩ = some (.int .i64 t) := HQ60.out.blk.cell 0
            have k1 : World.cell? _ ⟨pm, 1, none⟩ = some (.slice (some AC) n cC) := HQ60.out.blk.cell 1
            have k2 : World.cell? _ ⟨pm, 2, none⟩ = some (.slice AW WW.length cW) := HQ60.out.blk.cell 2
            have k3 : World.cell? _ ⟨pm, 3, none⟩ = some (.slice (some AH) n cH) := HQ60.out.blk.cell 3
            have k4 : World.cell? _ ⟨pm, 4, none⟩ = some (.slice (some AG) n cF) := HQ60.out.blk.cell 4
            have k5 : World.cell? _ ⟨pm, 5, none⟩ = some (.slice (some AL) n cL) := HQ60.out.blk.cell 5
            go_wp2_with fail
            refine (qNear (fun b => lab5 b = [] ∧ b ≠ pm) _ n t (costF m a b c) h5 f5 (startF t) WW av bv w60 HQ60.out.qr hn8).mono ?_
            rintro e w61 ⟨rfl, hb61⟩
            have HQ61 := Lib.hid (HQ60.out.below hb61)
            have HB61 := Lib.hid (keep HB60.out hb61)
            clear hb61 HQ60 HB60 k0 k1 k2 k3 k4 k5
            have k0 : World.cell? _ ⟨pm, 0, none⟩ = some (.int .i64 t) := HQ61.out.blk.cell 0
            have k1 : World.cell? _ ⟨pm, 1, none⟩ = some (.slice (some AC) n cC) := HQ61.out.blk.cell 1
            have k2 : World.cell? _ ⟨pm, 2, none⟩ = some (.slice AW WW.length cW) := HQ61.out.blk.cell 2
            have k3 : World.cell? _ ⟨pm, 3, none⟩ = some (.slice (some AH) n cH) := HQ61.out.blk.cell 3
            have k4 : World.cell? _ ⟨pm, 4, none⟩ = some (.slice (some AG) n cF) := HQ61.out.blk.cell 4
            have k5 : World.cell? _ ⟨pm, 5, none⟩ = some (.slice (some AL) n cL) := HQ61.out.blk.cell 5
            rw [HEN.out]
            have ct1 := HCT.out _ HB61.out
            go_wp2_with fail
            refine (qSend (fun b => lab5 b = [] ∧ b ≠ pm) _ n t (costF m a b c) h5 f5 (startF t) WW av bv w61 HQ61.out.qr hn8 (by have := HY5.out.len HI5.out hn8; omega)).mono ?_
            rintro e w62 ⟨rfl, hb62⟩
            have HQ62 := Lib.hid (HQ61.out.below hb62)
            have HB62 := Lib.hid (keep HB61.out hb62)
            clear hb62 HQ61 HB61 k0 k1 k2 k3 k4 k5
            have k0 : World.cell? _ ⟨pm, 0, none⟩ = some (.int .i64 t) := HQ62.out.blk.cell 0
            have k1 : World.cell? _ ⟨pm, 1, none⟩ = some (.slice (some AC) n cC) := HQ62.out.blk.cell 1
            have k2 : World.cell? _ ⟨pm, 2, none⟩ = some (.slice AW WW.length cW) := HQ62.out.blk.cell 2
            have k3 : World.cell? _ ⟨pm, 3, none⟩ = some (.slice (some AH) n cH) := HQ62.out.blk.cell 3
            have k4 : World.cell? _ ⟨pm, 4, none⟩ = some (.slice (some AG) n cF) := HQ62.out.blk.cell 4
            have k5 : World.cell? _ ⟨pm, 5, none⟩ = some (.slice (some AL) n cL) := HQ62.out.blk.cell 5
            rw [HY5.out.sendE, HTE.out]
            go_wp2_with fail
            have hcall := asyncSend lab5 A5 n t (costF m a b c) s5 av bv w62 HQ62.out.an hn8
            rw [HP5.out, HTE.out] at hcall
            simp only [errV, HT0.out, if_false] at hcall
            refine hcall.mono ?_
            clear hcall
            rintro e w63 ⟨rfl, lab63, A63, hp63, hA63, hF63⟩
            rw [HS6.out] at hA63
            have HQ63 := Lib.hid (HQ62.out.turn hA63 HI6.out hF63)
            have HBL63 := Lib.hid (hF63.below HB62.out.size HLO5.out)
            have HB63 := Lib.hid (HB62.out.trans HBL63.out.1)
            have HLO63 := Lib.hid HBL63.out.2
            have HP63 := Lib.hid hp63
            clear hp63 hA63 hF63 HQ62 HB62 HBL63 k0 k1 k2 k3 k4 k5
            have k0 : World.cell? _ ⟨pm, 0, none⟩ = some (.int .i64 t) := HQ63.out.blk.cell 0
            have k1 : World.cell? _ ⟨pm, 1, none⟩ = some (.slice (some AC) n cC) := HQ63.out.blk.cell 1
            have k2 : World.cell? _ ⟨pm, 2, none⟩ = some (.slice AW WW.length cW) := HQ63.out.blk.cell 2
            have k3 : World.cell? _ ⟨pm, 3, none⟩ = some (.slice (some AH) n cH) := HQ63.out.blk.cell 3
            have k4 : World.cell? _ ⟨pm, 4, none⟩ = some (.slice (some AG) n cF) := HQ63.out.blk.cell 4
            have k5 : World.cell? _ ⟨pm, 5, none⟩ = some (.slice (some AL) n cL) := HQ63.out.blk.cell 5
            go_wp2_with fail
            refine (err_no te te true ⟨fun _ => rfl, fun _ => rfl⟩ w63 (HET.out.keep HB63.out)).mono ?_
            rintro e w64 ⟨rfl, hb64⟩
            have HQ64 := Lib.hid (HQ63.out.below hb64)
            have HB64 := Lib.hid (keep HB63.out hb64)
            clear hb64 HQ63 HB63 k0 k1 k2 k3 k4 k5
            have k0 : World.cell? _ ⟨pm, 0, none⟩ = some (.int .i64 t) := HQ64.out.blk.cell 0
            have k1 : World.cell? _ ⟨pm, 1, none⟩ = some (.slice (some AC) n cC) := HQ64.out.blk.cell 1
            have k2 : World.cell? _ ⟨pm, 2, none⟩ = some (.slice AW WW.length cW) := HQ64.out.blk.cell 2
            have k3 : World.cell? _ ⟨pm, 3, none⟩ = some (.slice (some AH) n cH) := HQ64.out.blk.cell 3
            have k4 : World.cell? _ ⟨pm, 4, none⟩ = some (.slice (some AG) n cF) := HQ64.out.blk.cell 4
            have k5 : World.cell? _ ⟨pm, 5, none⟩ = some (.slice (some AL) n cL) := HQ64.out.blk.cell 5
            go_wp2_with fail
            go_wp2_with fail
            go_loopw [29] (fun q wi => ∃ i : Nat, i ≤ n ∧ q = .int .i64 i ∧ wi = w64) (fun q _ => n - (intOf q).toNat)
            case atStart => exact ⟨0, by omega, rfl, rfl⟩
            case round =>
              obtain ⟨i, hi, rfl, hwi⟩ := hrel
              subst hwi
              by_cases hin7 : i < n
              · have hin7' : (i : Int) < n := by omega
                have hcall := netDist i i rfl hin7 HQ64.out.an hn8
                rw [HP63.out] at hcall
                have c9 := (HQ64.out.qr.farAt hin7).2
                rw [HY6.out.f] at c9
                obtain ⟨dd, hdd⟩ : ∃ dd, s6.f i = dd := ⟨_, rfl⟩
                rw [hdd] at hcall c9
                have HC := Lib.hid hcall
                clear hcall hdd
                go_wp2_with fail
                refine HC.out.mono ?_
                rintro e w88 ⟨rfl, h8⟩
                subst w88
                clear HC
                go_wp2_with fail
                go_roundw
                case rel => exact ⟨i + 1, by omega, by go_num, trivial⟩
                case measure => simp [intOf]; omega
              · have hid7 : decide ((i : Int) < n) = false := decide_eq_false (by omega)
                have hid8 : decide (n ≤ i) = true := decide_eq_true (by omega)
                clear k0 k1 k2 k3 k4 k5
                go_wp2_with fail
                go_roundw
                case rel => exact ⟨k + 1, by omega, by go_num, ⟨lab63, A63, s6, h5, f5, WW, _, HP63.out, HQ64.out, HY6.out, HLO63.out⟩, HB64.out⟩
                case measure => simp [intOf]; omega
      · obtain ⟨i, hi⟩ : ∃ i, i = k := ⟨_, rfl⟩
        have hcall := asyncDist lab5 A5 n t (costF m a b c) s5 n wo HQ.out.an hn8
        rw [HP5.out, if_pos (.inr (by omega))] at hcall
        have HC := Lib.hid hcall
        clear hcall hi
        have hcs : decide (k < nt) = false ∨ (decide (k < nt) = true ∧ decide (k < na) = false) ∨ (decide (k < nt) = true ∧ decide (k < na) = true ∧ decide (k < nb) = false) := by
          simp only [decide_eq_true_eq, decide_eq_false_iff_not]; omega
        clear hin
        rcases hcs with e1 | ⟨e1, e2⟩ | ⟨e1, e2, e3⟩
        all_goals
          go_wp2_with fail
          refine HC.out.mono ?_
          rintro e w9 ⟨rfl, h9⟩
          subst w9
          go_wp2_with fail
          refine (err_no 1 1 true ⟨fun _ => rfl, fun _ => rfl⟩ wo (HET.out.keep HB.out)).mono ?_
          rintro e w10 ⟨rfl, hb10⟩
          have HB10 := Lib.hid (keep HB.out hb10)
          clear hb10
          go_wp2_with fail
          go_ret
          exact ⟨rfl, HB10.out⟩
  · have hbad : Calls Tryd.prog 7 #[.int .i64 x, .slice A m cp, .int .i64 y] w1 fun e w' => e = .returned (.tuple #[.pointer none, errNo v]) ∧ Below w1.heap.size w1 w' := by
      rcases hf with hf | ⟨hg, hy, rfl⟩
      · exact asyncNew_bad x A m cp y a b c w1 (HL.out.keep HB1.out) hm v hv hf
      · obtain ⟨n, rfl, hn1, hn8, hr⟩ := good_nat hg
        exact asyncNew_range n n rfl A m cp y a b c w1 (HL.out.keep HB1.out) hm hg hy
    have HC := Lib.hid hbad
    clear hbad
    refine HC.out.mono ?_
    rintro e w2 ⟨rfl, hb2⟩
    have HB2 := Lib.hid (keep HB1.out hb2)
    clear hb2 HB1 HC
    go_wp2_with fail
    have hv0 : (v == 0) = false := beq_false_of_ne (by rcases hv with h | h | h <;> omega)
    have hv1 : (v != 0) = true := bne_iff_ne.2 (by rcases hv with h | h | h <;> omega)
    rcases hf with hf | ⟨hg, hy, rfl⟩
    · refine (graphFault_bad x A m cp a b c w2 (HL.out.keep HB2.out) hm v hf).mono ?_
      rintro e w3 ⟨rfl, hb3⟩
      have HB3 := Lib.hid (keep HB2.out hb3)
      clear hb3 HB2 hf hv
      go_wp2_with fail
      refine (err_no v v true ⟨fun _ => rfl, fun _ => rfl⟩ w3 (HET.out.keep HB3.out)).mono ?_
      rintro e w4 ⟨rfl, hb4⟩
      have HB4 := Lib.hid (keep HB3.out hb4)
      clear hb4
      go_wp2_with fail
      go_ret
      exact ⟨rfl, HB4.out⟩
    · refine (graphFault_good x A m cp a b c w2 (HL.out.keep HB2.out) hm hg).mono ?_
      rintro e w3 ⟨rfl, hb3⟩
      have HB3 := Lib.hid (keep HB2.out hb3)
      have hcs : decide (y < 0) = true ∨ (decide (y < 0) = false ∧ decide (x ≤ y) = true) := by
        simp only [decide_eq_true_eq, decide_eq_false_iff_not]; omega
      clear hb3 HB2 hg hy hv
      rcases hcs with e1 | ⟨e1, e2⟩
      all_goals
        go_wp2_with fail
        refine (err_no 1 1 true ⟨fun _ => rfl, fun _ => rfl⟩ w3 (HET.out.keep HB3.out)).mono ?_
        rintro e w4 ⟨rfl, hb4⟩
        have HB4 := Lib.hid (keep HB3.out hb4)
        clear hb4
        go_wp2_with fail
        go_ret
        exact ⟨rfl, HB4.out⟩

end Go.Proofs.YtminfghiejgieaaDoor

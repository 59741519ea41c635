/- SpfTells: the walk. Printed by gen_spftells.py. -/
import Derived.Test.YtbepfmcaolmhgaaDoorNearest
import Derived.Test.YtbepfmcaolmhgaaDoorUps
import Derived.Test.YtbepfmcaolmhgaaDoorRefBell
import Derived.Test.YtbepfmcaolmhgaaDoorRefGraph
import Derived.Test.YtbepfmcaolmhgaaDoorSame
import Derived.Test.YtbepfmcaolmhgaaDoorErr
namespace Go.Proofs.YtbepfmcaolmhgaaDoor
open Go.RowKit
set_option linter.unusedVariables false

set_option maxRecDepth 100000 in
set_option maxHeartbeats 8000000 in
theorem spfTells_walk (x : Int) (A : Option Addr) (m cp : Nat) (a b c : Nat → Int) (y : Int) (w : World) (hg : ErrT w) (hl : Lnk w A m a b c) (hm : m ≤ 9223372036854775807) :
    Calls Tryd.prog 6 #[.int .i64 x, .slice A m cp, .int .i64 y] w fun e w' => e = .returned (.bool true) ∧ Below w.heap.size w w' := by
  have HL := Lib.hid hl
  have HET := Lib.hid hg
  clear hl hg
  go_enter Tryd.func6, Tryd.ntmps6
  go_wp2_with fail
  refine (nearest_walk w).mono ?_
  rintro e w1 ⟨rfl, hb1⟩
  have HB1 := Lib.hid hb1
  clear hb1
  go_wp2_with fail
  rcases graph_cases x m a b c with hgd | ⟨v, hv, hf⟩
  · have HG := Lib.hid hgd
    refine (graphFault_good x A m cp a b c w1 (HL.out.keep HB1.out) hm HG.out).mono ?_
    rintro e w2 ⟨rfl, hb2⟩
    have HB2 := Lib.hid (keep HB1.out hb2)
    clear hb2 HB1
    by_cases hy : 0 ≤ y ∧ y < x
    · obtain ⟨n, rfl, hn1, hn8, hr⟩ := good_nat hgd
      obtain ⟨t, rfl⟩ : ∃ t : Nat, y = t := ⟨y.toNat, by omega⟩
      have ht : t < n := by omega
      have hn8' : (n : Int) ≤ 8 := by omega
      have HR := Lib.hid hr
      have hd1 : decide ((t : Int) < 0) = false := decide_eq_false (by omega)
      have hd2 : decide (n ≤ t) = false := decide_eq_false (by omega)
      clear hgd hr hy
      have hcall := farOf_walk n t n t rfl rfl A m cp a b c w2 (HL.out.keep HB2.out) hm hn1 hn8 HR.out ht
      have HF4 := Lib.hid hcall
      clear hcall
      go_wp2_with fail
      refine HF4.out.mono ?_
      rintro e w4 ⟨g4, c4, rfl, -, hrow4, hb4⟩
      have HX4 := Lib.hid hrow4
      have HB4 := Lib.hid (keep HB2.out hb4)
      clear hrow4 hb4 HF4
      go_wp2_with fail
      go_loopw [10, 11] (fun v q wr => ∃ i : Nat, i ≤ n ∧ q = .int .i64 i ∧ Rag wr w4.heap.size v i (fun i => (upsL n t (costF m a b c) (endF t a b c m) i).length) (fun i => atL (upsL n t (costF m a b c) (endF t a b c m) i)) ∧ Below w4.heap.size w4 wr) (fun _ q _ => n - (intOf q).toNat)
      case atStart => exact ⟨0, by omega, rfl, Rag.nil _ _ _ _, Below.refl _ _⟩
      case round =>
        obtain ⟨i, hi, rfl, hT, hb⟩ := hrel
        have HT := Lib.hid hT
        have HB := Lib.hid hb
        clear hT hb
        obtain ⟨wo, hwo⟩ : ∃ wo : World, wo = wr := ⟨_, rfl⟩
        rw [← hwo] at HT HB ⊢
        clear hwo
        by_cases hlt : i < n
        · have hlt' : (i : Int) < n := by omega
          obtain ⟨di, hdi⟩ : ∃ di, endF t a b c m i = di := ⟨_, rfl⟩
          have HDI := Lib.hid hdi
          have hdr : 0 ≤ di ∧ di ≤ 16 := by rw [← hdi]; exact end_ranged (t := t) HR.out i hlt
          clear hdi
          go_wp2_with fail
          go_loopw [12, 13] (fun u q wi => ∃ k : Nat, k ≤ n ∧ q = .int .i64 k ∧ OwnV wi wo.heap.size u (pickL (upB t (costF m a b c) (endF t a b c m) i) k).length (atL (pickL (upB t (costF m a b c) (endF t a b c m) i) k)) ∧ Below wo.heap.size wo wi) (fun _ q _ => n - (intOf q).toNat)
          case atStart => exact ⟨0, by omega, rfl, OwnV.nil _ _ _, Below.refl _ _⟩
          case round =>
            obtain ⟨k, hk, rfl, hU, hb⟩ := hrel
            have HU := Lib.hid hU
            have HBJ := Lib.hid (keep HB.out hb)
            have HBI := Lib.hid (keep HB4.out HBJ.out)
            have HBW := Lib.hid hb
            clear hU hb
            by_cases hkt : k < n
            · have hkt' : (k : Int) < n := by omega
              have hlen := pickL_len (upB t (costF m a b c) (endF t a b c m) i) k
              obtain ⟨cc, hcc⟩ : ∃ cc, costV m a b c k i = cc := ⟨_, rfl⟩
              have hcr : 0 ≤ cc ∧ cc ≤ 16 := by rw [← hcc]; exact costV_ranged HR.out k i
              have HCC := Lib.hid hcc
              have HKC : Hid (costF m a b c k i = cc) := hcc
              clear hcc
              go_wp2_with fail
              have hcall := costOf_walk A m cp a b c k i wr (HL.out.keep HBI.out) hm cc HCC.out
              refine hcall.mono ?_
              clear hcall
              rintro e w9 ⟨rfl, h9⟩
              subst w9
              by_cases hit : i = t
              · have e2 : ((i : Int) == (t : Int)) = true := by simp [hit]
                have e1 : (i == t) = true := by simp [hit]
                have e3 : ((i : Int) != (t : Int)) = false := by simp [hit]
                have e4 : (i != t) = false := by simp [hit]
                have HP : Hid (pickL (upB t (costF m a b c) (endF t a b c m) i) (k + 1) = pickL (upB t (costF m a b c) (endF t a b c m) i) k) := pickL_no (by unfold upB; simp [hit])
                clear hit hlen
                go_wp2_with fail
                go_quiet (fail)
                go_wp2_with fail
                go_roundw
                case rel => exact ⟨k + 1, by omega, by go_num, by rw [HP.out]; exact HU.out.drewN _, below_drewN HBW.out _⟩
                case measure => simp [intOf]; omega
              · have e2 : ((i : Int) == (t : Int)) = false := beq_false_of_ne (by omega)
                have e1 : (i == t) = false := beq_false_of_ne hit
                have e3 : ((i : Int) != (t : Int)) = true := bne_iff_ne.2 (by omega)
                have e4 : (i != t) = true := bne_iff_ne.2 hit
                by_cases hki : k = i
                · have f2 : ((k : Int) == (i : Int)) = true := by simp [hki]
                  have f1 : (k == i) = true := by simp [hki]
                  have f3 : ((k : Int) != (i : Int)) = false := by simp [hki]
                  have f4 : (k != i) = false := by simp [hki]
                  have HP : Hid (pickL (upB t (costF m a b c) (endF t a b c m) i) (k + 1) = pickL (upB t (costF m a b c) (endF t a b c m) i) k) := pickL_no (by unfold upB; simp [hki])
                  clear hit hki hlen
                  go_wp2_with fail
                  go_quiet (fail)
                  go_wp2_with fail
                  go_roundw
                  case rel => exact ⟨k + 1, by omega, by go_num, by rw [HP.out]; exact HU.out.drewN _, below_drewN HBW.out _⟩
                  case measure => simp [intOf]; omega
                · have f2 : ((k : Int) == (i : Int)) = false := beq_false_of_ne (by omega)
                  have f1 : (k == i) = false := beq_false_of_ne hki
                  have f3 : ((k : Int) != (i : Int)) = true := bne_iff_ne.2 (by omega)
                  have f4 : (k != i) = true := bne_iff_ne.2 hki
                  have ck := (HX4.out.below HBJ.out HX4.out.lt).cell hkt
                  have ci := (HX4.out.below HBJ.out HX4.out.lt).cell hlt
                  rw [HDI.out] at ci
                  obtain ⟨hk0, hk1⟩ := end_ranged (t := t) HR.out k hkt
                  obtain ⟨dk, hdk⟩ : ∃ dk, endF t a b c m k = dk := ⟨_, rfl⟩
                  have HDK := Lib.hid hdk
                  rw [hdk] at ck hk0 hk1
                  clear hdk
                  by_cases hc16 : cc < 16
                  · by_cases h16 : di < 16
                    · by_cases hs : dk + cc = di
                      · have hw : IntKind.i64.wrap (dk + cc) = dk + cc := IntWalk.i64_in _ (by omega)
                        have g1 : (dk + cc == di) = true := by simp [hs]
                        have HP : Hid (pickL (upB t (costF m a b c) (endF t a b c m) i) (k + 1) = pickL (upB t (costF m a b c) (endF t a b c m) i) k ++ [(k : Int)]) := pickL_yes (by unfold upB; rw [HDI.out, HDK.out, HKC.out]; simp [hs, hit, hki, h16])
                        clear hit hki hs
                        go_wp2_with fail
                        go_quiet (fail)
                        have HU2 := Lib.hid (HU.out.drewN nq)
                        have HB2' := Lib.hid (below_drewN HBW.out nq)
                        obtain ⟨wq, hwq⟩ : ∃ wq, wr.drewN nq = wq := ⟨_, rfl⟩
                        rw [hwq] at HU2 HB2' ⊢
                        clear hwq hw ck ci HU HBI HBW HBJ
                        go_wp2_with (at_builtin; refine wpList_append_int rfl (.tmp 93) (.tmp 95) rfl wo.heap.size _ _ _ rfl (HU2.out.alloc _) k _ rfl (cell_new_at _ _ _ rfl) (by omega) (by have := HB2'.out.size; simp; omega) ?_)
                        intro g3 cap3 w3' hT3 hb3 _ _
                        have HT3 : Hid (OwnV w3' wo.heap.size (.slice (some ⟨g3, 0, none⟩) ((pickL (upB t (costF m a b c) (endF t a b c m) i) k).length + 1) cap3) (pickL (upB t (costF m a b c) (endF t a b c m) i) (k + 1)).length (atL (pickL (upB t (costF m a b c) (endF t a b c m) i) (k + 1)))) := by
                          rw [HP.out, List.length_append]
                          exact OwnV.congr hT3 (atL_snoc _ _)
                        have HB3' : Hid (Below wo.heap.size wo w3') := (HB2'.out.alloc HB2'.out.size _).trans hb3
                        clear hT3 hb3 hlen
                        go_wp2_with fail
                        go_roundw
                        case rel => exact ⟨k + 1, by omega, by go_num, HT3.out, HB3'.out⟩
                        case measure => simp [intOf]; omega
                      · have hw : IntKind.i64.wrap (dk + cc) = dk + cc := IntWalk.i64_in _ (by omega)
                        have g1 : (dk + cc == di) = false := beq_false_of_ne hs
                        have HP : Hid (pickL (upB t (costF m a b c) (endF t a b c m) i) (k + 1) = pickL (upB t (costF m a b c) (endF t a b c m) i) k) := pickL_no (by unfold upB; rw [HDI.out, HDK.out, HKC.out]; simp [hs])
                        clear hit hki hs hlen
                        go_wp2_with fail
                        go_quiet (fail)
                        go_wp2_with fail
                        go_roundw
                        case rel => exact ⟨k + 1, by omega, by go_num, by rw [HP.out]; exact HU.out.drewN _, below_drewN HBW.out _⟩
                        case measure => simp [intOf]; omega
                    · have g1 : decide (di < 16) = false := decide_eq_false h16
                      have HP : Hid (pickL (upB t (costF m a b c) (endF t a b c m) i) (k + 1) = pickL (upB t (costF m a b c) (endF t a b c m) i) k) := pickL_no (by unfold upB; rw [HDI.out]; simp [h16])
                      clear hit hki h16 hlen
                      go_wp2_with fail
                      go_quiet (fail)
                      go_wp2_with fail
                      go_roundw
                      case rel => exact ⟨k + 1, by omega, by go_num, by rw [HP.out]; exact HU.out.drewN _, below_drewN HBW.out _⟩
                      case measure => simp [intOf]; omega
                  · have g1 : decide (cc < 16) = false := decide_eq_false hc16
                    have HP : Hid (pickL (upB t (costF m a b c) (endF t a b c m) i) (k + 1) = pickL (upB t (costF m a b c) (endF t a b c m) i) k) := pickL_no (by unfold upB; rw [HDI.out, HDK.out, HKC.out]; simp only [decide_eq_false_iff_not]; intro h; omega)
                    clear hit hki hc16 hlen
                    go_wp2_with fail
                    go_quiet (fail)
                    go_wp2_with fail
                    go_roundw
                    case rel => exact ⟨k + 1, by omega, by go_num, by rw [HP.out]; exact HU.out.drewN _, below_drewN HBW.out _⟩
                    case measure => simp [intOf]; omega
            · have ek : k = n := by omega
              subst ek
              obtain ⟨Au, cu, rfl, -⟩ := HU.out.vec
              have HSW := HB.out.size
              have HSI := HBJ.out.size
              go_wp2_with (at_builtin; refine wpList_append_rag rfl (.tmp 97) (.tmp 99) rfl w4.heap.size _ i (fun i => (upsL k t (costF m a b c) (endF t a b c m) i).length) (fun i => atL (upsL k t (costF m a b c) (endF t a b c m) i)) rfl ((HT.out.below HBW.out).alloc _) _ ((HU.out.alloc _).lift HSW) _ rfl (cell_new_at _ _ _ rfl) (by omega) (by simp; omega) ?_)
              intro v3 w3' hT3 hb3
              have HT3 := Lib.hid hT3
              have HB3' : Hid (Below w4.heap.size w4 w3') := (HBJ.out.alloc HBJ.out.size _).trans hb3
              clear hT3 hb3
              go_wp2_with fail
              go_roundw
              case rel => exact ⟨i + 1, by omega, by go_num, HT3.out, HB3'.out⟩
              case measure => simp [intOf]; omega
        · have ei : i = n := by omega
          subst ei
          have HB5 := Lib.hid (keep HB4.out HB.out)
          have HX5 := Lib.hid (HX4.out.below HB.out HX4.out.lt)
          clear HX4 HB
          obtain ⟨Ar, cr, rfl, hmr⟩ := HT.out.mat
          have HMR := Lib.hid hmr
          clear hmr HT
          go_wp2_with fail
          have hcall := spfFar_ok i t i t rfl rfl A m cp a b c wo (HL.out.keep HB5.out) hm HG.out ht
          refine hcall.mono ?_
          clear hcall
          rintro e w6 ⟨g6, rfl, -, hrow6, hb6⟩
          have HY6 := Lib.hid hrow6
          have HX6 := Lib.hid (HX5.out.below hb6 HX5.out.lt)
          have HMR6 := Lib.hid (HMR.out.keep hb6)
          have HB6 := Lib.hid (keep HB5.out hb6)
          clear hrow6 hb6 HX5 HB5 HMR
          go_wp2_with fail
          have hcall := err_nil 0 true ⟨fun _ => rfl, fun _ => rfl⟩ w6
          refine hcall.mono ?_
          clear hcall
          rintro e w7 ⟨rfl, hb7⟩
          have HY7 := Lib.hid (HY6.out.below hb7 HY6.out.lt)
          have HX7 := Lib.hid (HX6.out.below hb7 HX6.out.lt)
          have HMR7 := Lib.hid (HMR6.out.keep hb7)
          have HB7 := Lib.hid (keep HB6.out hb7)
          clear hb7 HX6 HY6 HB6 HMR6
          go_wp2_with fail
          have hcall := ints_walk (some ⟨g6, 0, none⟩) (some ⟨g4, 0, none⟩) i i i c4 _ _ w7 HY7.out.vec HX7.out.vec (by omega) (by omega) true ⟨fun _ => ⟨rfl, fun _ _ => rfl⟩, fun _ => rfl⟩
          refine hcall.mono ?_
          clear hcall
          rintro e w8 ⟨rfl, k8, hw8⟩
          have HB8 : Hid (Below w.heap.size w w8) := by subst w8; exact below_drewN HB7.out k8
          have HMR8 : Hid (Mat w8 Ar i (fun j => (upsL i t (costF m a b c) (endF t a b c m) j).length) (fun j => atL (upsL i t (costF m a b c) (endF t a b c m) j))) := by subst w8; exact HMR7.out
          clear hw8 HX7 HY7 HB7 HMR7
          go_wp2_with fail
          have hcall := spfUps_ok i t i t rfl rfl A m cp a b c w8 (HL.out.keep HB8.out) hm HG.out ht
          refine hcall.mono ?_
          clear hcall
          rintro e w9 ⟨vu, rfl, hrag, hb9⟩
          obtain ⟨Au, cu, rfl, hmu⟩ := hrag.mat
          have HMU := Lib.hid hmu
          have HMR9 := Lib.hid (HMR8.out.keep hb9)
          have HB9 := Lib.hid (keep HB8.out hb9)
          clear hrag hmu hb9 HB8 HMR8
          go_wp2_with fail
          have hcall := err_nil 0 true ⟨fun _ => rfl, fun _ => rfl⟩ w9
          refine hcall.mono ?_
          clear hcall
          rintro e w10 ⟨rfl, hb10⟩
          have HMU10 := Lib.hid (HMU.out.keep hb10)
          have HMR10 := Lib.hid (HMR9.out.keep hb10)
          have HB10 := Lib.hid (keep HB9.out hb10)
          clear hb10 HB9 HMU HMR9
          go_wp2_with fail
          have hcall := rows_walk Au Ar i i cu cr _ _ _ _ w10 HMU10.out HMR10.out (by omega) (by omega) (fun j _ => by have := pickL_len (upB t (costF m a b c) (endF t a b c m) j) i; show (pickL _ i).length ≤ _; omega) (fun j _ => by have := pickL_len (upB t (costF m a b c) (endF t a b c m) j) i; show (pickL _ i).length ≤ _; omega) true ⟨fun _ => ⟨rfl, fun _ _ => ⟨rfl, fun _ _ => rfl⟩⟩, fun _ => rfl⟩
          refine hcall.mono ?_
          clear hcall
          rintro e w11 ⟨rfl, k11, hw11⟩
          have HB11 : Hid (Below w.heap.size w w11) := by subst w11; exact below_drewN HB10.out k11
          clear hw11 HB10 HMU10 HMR10
          go_wp2_with fail
          go_ret
          exact ⟨rfl, HB11.out⟩
    · have HYB : Hid (y < 0 ∨ x ≤ y) := by
        show y < 0 ∨ x ≤ y
        omega
      clear hgd
      rcases (show y < 0 ∨ (0 ≤ y ∧ x ≤ y) by omega) with hy | ⟨hy0, hy1⟩
      · go_wp2_with fail
        refine wp_loop_rounds 1 ?_
        rw [rounds_succ]
        go_wp2_with fail
        refine (spfFar_bad x y A m cp a b c w2 (HL.out.keep HB2.out) hm 1 (.inr ⟨HG.out, HYB.out, rfl⟩)).mono ?_
        rintro e w3 ⟨rfl, hb3⟩
        have HB3 := Lib.hid (keep HB2.out hb3)
        clear hb3
        go_wp2_with fail
        have hcall := err_no 1 1 true ⟨fun _ => rfl, fun _ => rfl⟩ w3 (HET.out.keep HB3.out)
        refine hcall.mono ?_
        clear hcall
        rintro e w4 ⟨rfl, hb4⟩
        have HB4 := Lib.hid (keep HB3.out hb4)
        clear hb4
        go_wp2_with fail
        have hcall := ints_walk none none 0 0 0 0 (fun _ => 0) (fun _ => 0) w4 (fun j hj => absurd hj (by omega)) (fun j hj => absurd hj (by omega)) (by omega) (by omega) true ⟨fun _ => ⟨rfl, fun _ _ => rfl⟩, fun _ => rfl⟩
        refine hcall.mono ?_
        clear hcall
        rintro e w5 ⟨rfl, k1, hw5⟩
        have HB5 : Hid (Below w.heap.size w w5) := by subst w5; exact below_drewN HB4.out k1
        clear hw5
        go_wp2_with fail
        refine (spfUps_bad x y A m cp a b c w5 (HL.out.keep HB5.out) hm 1 (.inr ⟨HG.out, HYB.out, rfl⟩)).mono ?_
        rintro e w6 ⟨rfl, hb6⟩
        have HB6 := Lib.hid (keep HB5.out hb6)
        clear hb6
        go_wp2_with fail
        have hcall := err_no 1 1 true ⟨fun _ => rfl, fun _ => rfl⟩ w6 (HET.out.keep HB6.out)
        refine hcall.mono ?_
        clear hcall
        rintro e w7 ⟨rfl, hb7⟩
        have HB7 := Lib.hid (keep HB6.out hb7)
        clear hb7
        go_wp2_with fail
        have hcall := rows_walk none none 0 0 0 0 (fun _ => 0) (fun _ => 0) (fun _ _ => 0) (fun _ _ => 0) w7 (fun j hj => absurd hj (by omega)) (fun j hj => absurd hj (by omega)) (by omega) (by omega) (fun _ _ => by omega) (fun _ _ => by omega) true ⟨fun _ => ⟨rfl, fun i hi => absurd hi (by omega)⟩, fun _ => rfl⟩
        refine hcall.mono ?_
        clear hcall
        rintro e w8 ⟨rfl, k2, hw8⟩
        have HB8 : Hid (Below w.heap.size w w8) := by subst w8; exact below_drewN HB7.out k2
        clear hw8
        go_wp2_with fail
        go_ret
        exact ⟨rfl, HB8.out⟩
      · have hd1 : decide (y < 0) = false := decide_eq_false (by omega)
        go_wp2_with fail
        refine wp_loop_rounds 1 ?_
        rw [rounds_succ]
        go_wp2_with fail
        refine (spfFar_bad x y A m cp a b c w2 (HL.out.keep HB2.out) hm 1 (.inr ⟨HG.out, HYB.out, rfl⟩)).mono ?_
        rintro e w3 ⟨rfl, hb3⟩
        have HB3 := Lib.hid (keep HB2.out hb3)
        clear hb3
        go_wp2_with fail
        have hcall := err_no 1 1 true ⟨fun _ => rfl, fun _ => rfl⟩ w3 (HET.out.keep HB3.out)
        refine hcall.mono ?_
        clear hcall
        rintro e w4 ⟨rfl, hb4⟩
        have HB4 := Lib.hid (keep HB3.out hb4)
        clear hb4
        go_wp2_with fail
        have hcall := ints_walk none none 0 0 0 0 (fun _ => 0) (fun _ => 0) w4 (fun j hj => absurd hj (by omega)) (fun j hj => absurd hj (by omega)) (by omega) (by omega) true ⟨fun _ => ⟨rfl, fun _ _ => rfl⟩, fun _ => rfl⟩
        refine hcall.mono ?_
        clear hcall
        rintro e w5 ⟨rfl, k1, hw5⟩
        have HB5 : Hid (Below w.heap.size w w5) := by subst w5; exact below_drewN HB4.out k1
        clear hw5
        go_wp2_with fail
        refine (spfUps_bad x y A m cp a b c w5 (HL.out.keep HB5.out) hm 1 (.inr ⟨HG.out, HYB.out, rfl⟩)).mono ?_
        rintro e w6 ⟨rfl, hb6⟩
        have HB6 := Lib.hid (keep HB5.out hb6)
        clear hb6
        go_wp2_with fail
        have hcall := err_no 1 1 true ⟨fun _ => rfl, fun _ => rfl⟩ w6 (HET.out.keep HB6.out)
        refine hcall.mono ?_
        clear hcall
        rintro e w7 ⟨rfl, hb7⟩
        have HB7 := Lib.hid (keep HB6.out hb7)
        clear hb7
        go_wp2_with fail
        have hcall := rows_walk none none 0 0 0 0 (fun _ => 0) (fun _ => 0) (fun _ _ => 0) (fun _ _ => 0) w7 (fun j hj => absurd hj (by omega)) (fun j hj => absurd hj (by omega)) (by omega) (by omega) (fun _ _ => by omega) (fun _ _ => by omega) true ⟨fun _ => ⟨rfl, fun i hi => absurd hi (by omega)⟩, fun _ => rfl⟩
        refine hcall.mono ?_
        clear hcall
        rintro e w8 ⟨rfl, k2, hw8⟩
        have HB8 : Hid (Below w.heap.size w w8) := by subst w8; exact below_drewN HB7.out k2
        clear hw8
        go_wp2_with fail
        go_ret
        exact ⟨rfl, HB8.out⟩
  · have HFG := Lib.hid hf
    have hv0 : (v == 0) = false := beq_false_of_ne (by rcases hv with h | h | h <;> omega)
    clear hf hv
    refine (graphFault_bad x A m cp a b c w1 (HL.out.keep HB1.out) hm v HFG.out).mono ?_
    rintro e w2 ⟨rfl, hb2⟩
    have HB2 := Lib.hid (keep HB1.out hb2)
    clear hb2 HB1
    go_wp2_with fail
    refine wp_loop_rounds 1 ?_
    rw [rounds_succ]
    go_wp2_with fail
    refine (spfFar_bad x y A m cp a b c w2 (HL.out.keep HB2.out) hm v (.inl HFG.out)).mono ?_
    rintro e w3 ⟨rfl, hb3⟩
    have HB3 := Lib.hid (keep HB2.out hb3)
    clear hb3
    go_wp2_with fail
    have hcall := err_no v v true ⟨fun _ => rfl, fun _ => rfl⟩ w3 (HET.out.keep HB3.out)
    refine hcall.mono ?_
    clear hcall
    rintro e w4 ⟨rfl, hb4⟩
    have HB4 := Lib.hid (keep HB3.out hb4)
    clear hb4
    go_wp2_with fail
    have hcall := ints_walk none none 0 0 0 0 (fun _ => 0) (fun _ => 0) w4 (fun j hj => absurd hj (by omega)) (fun j hj => absurd hj (by omega)) (by omega) (by omega) true ⟨fun _ => ⟨rfl, fun _ _ => rfl⟩, fun _ => rfl⟩
    refine hcall.mono ?_
    clear hcall
    rintro e w5 ⟨rfl, k1, hw5⟩
    have HB5 : Hid (Below w.heap.size w w5) := by subst w5; exact below_drewN HB4.out k1
    clear hw5
    go_wp2_with fail
    refine (spfUps_bad x y A m cp a b c w5 (HL.out.keep HB5.out) hm v (.inl HFG.out)).mono ?_
    rintro e w6 ⟨rfl, hb6⟩
    have HB6 := Lib.hid (keep HB5.out hb6)
    clear hb6
    go_wp2_with fail
    have hcall := err_no v v true ⟨fun _ => rfl, fun _ => rfl⟩ w6 (HET.out.keep HB6.out)
    refine hcall.mono ?_
    clear hcall
    rintro e w7 ⟨rfl, hb7⟩
    have HB7 := Lib.hid (keep HB6.out hb7)
    clear hb7
    go_wp2_with fail
    have hcall := rows_walk none none 0 0 0 0 (fun _ => 0) (fun _ => 0) (fun _ _ => 0) (fun _ _ => 0) w7 (fun j hj => absurd hj (by omega)) (fun j hj => absurd hj (by omega)) (by omega) (by omega) (fun _ _ => by omega) (fun _ _ => by omega) true ⟨fun _ => ⟨rfl, fun i hi => absurd hi (by omega)⟩, fun _ => rfl⟩
    refine hcall.mono ?_
    clear hcall
    rintro e w8 ⟨rfl, k2, hw8⟩
    have HB8 : Hid (Below w.heap.size w w8) := by subst w8; exact below_drewN HB7.out k2
    clear hw8
    go_wp2_with fail
    go_ret
    exact ⟨rfl, HB8.out⟩

end Go.Proofs.YtbepfmcaolmhgaaDoor

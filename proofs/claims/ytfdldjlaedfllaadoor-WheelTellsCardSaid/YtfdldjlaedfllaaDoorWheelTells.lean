/- WheelTells: any acts: it is set, or cleared, or ticks: the wheel answers as the document says. For all arguments; no condition. -/
import Derived.Test.YtfdldjlaedfllaaDoorWhPick
import Derived.Test.YtfdldjlaedfllaaDoorErr
import Derived.Test.YtfdldjlaedfllaaDoorTail
import Derived.Deep.QuietTactic
import Derived.Deep.Cut
import Derived.Deep.CutRange
import Derived.Deep.DeepCutAuto
namespace Go.Proofs.YtfdldjlaedfllaaDoor
open Go.RowKit Go.Maps
set_option linter.unusedVariables false

set_option maxRecDepth 100000 in
set_option maxHeartbeats 8000000 in
theorem wheelTells_walk (A : Option Addr) (n ca : Nat) (f : Nat → Int) (B : Option Addr) (m cb : Nat) (g : Nat → Int) (C : Option Addr) (k cc : Nat) (h : Nat → Int) (w : World) (hET : ErrT w)
    (hA : Vec w A n f) (hn : n ≤ 9223372036854775807) (hB : Vec w B m g) (hm : m ≤ 9223372036854775807) (hC : Vec w C k h) (hk : k ≤ 9223372036854775807) :
    Calls Tryd.prog 3 #[.slice A n ca, .slice B m cb, .slice C k cc] w fun e w' => e = .returned (.bool true) ∧ Below w.heap.size w w' := by
  have HA := Lib.hid hA
  have HBv := Lib.hid hB
  have HCv := Lib.hid hC
  have HNn := Lib.hid hn
  have HEt := Lib.hid hET
  clear hA hB hC hn hm hk hET
  go_enter Tryd.func3, Tryd.ntmps3
  go_wp2_with fail
  refine (wheeled_walk w).mono ?_
  rintro e w1 ⟨rfl, hb1⟩
  have HB1 := Lib.hid hb1
  clear hb1
  go_wp2_with fail
  refine (wnew_walk w1).mono ?_
  rintro e w2 ⟨p, F0, rfl, hW, hF, hb⟩
  have HW2 := Lib.hid hW
  have HF2 := Lib.hid hF
  have HB2 := Lib.hid (keep HB1.out hb)
  clear hW hF hb
  go_wp2_with fail
  refine (refRepeat_walk 0 64 64 rfl w2 (by omega)).mono ?_
  rintro e w3 ⟨v, rfl, hv, hb3⟩
  obtain ⟨gd, cd, rfl, hgd, -, -, hrow⟩ : ∃ gd cd, v = .slice (some ⟨gd, 0, none⟩) 64 cd ∧ w2.heap.size ≤ gd ∧ gd < w3.heap.size ∧ 64 ≤ cd ∧ RowP w3 gd 3 64 fun i => .int .i64 0 := by
    rcases hv.form with ⟨h, _⟩ | h
    · omega
    · exact h
  have HO : Hid (TellS w gd p 0 (fun _ => 0) (fun _ => 0) F0 w3) := Lib.hid ⟨(HW2.out.below hb3).tight, Tm.start, fun b hb => Nat.le_trans HB1.out.size (HF2.out b hb), fun hb => by have := HW2.out.lt gd hb; omega, Nat.le_trans HB2.out.size hgd, hrow, keep HB2.out hb3⟩
  clear hv hb3 hgd hrow HW2 HF2 HB2 HB1
  go_wp2_with fail
  go_loopw [10, 11] (fun nv q wr => ∃ (a : Nat) (now : Int) (due : Nat → Int) (F : Nat → Prop), a ≤ n ∧ a ≤ m ∧ a ≤ k ∧ q = .int .i64 a ∧ nv = .int .i64 now ∧ TellS w gd p now due due F wr) (fun _ q _ => n - (intOf q).toNat)
  case atStart => exact ⟨0, 0, _, F0, by omega, by omega, by omega, rfl, rfl, HO.out⟩
  case round =>
    obtain ⟨a, now, due, F, han, ham, hak, rfl, rfl, hS⟩ := hrel
    have HS := Lib.hid hS
    clear hS HO
    by_cases hl1' : a < n
    · have hl1 : (a : Int) < n := by omega
      by_cases hl2' : a < m
      · have hl2 : (a : Int) < m := by omega
        by_cases hl3' : a < k
        · have hl3 : (a : Int) < k := by omega
          have han' : a + 1 ≤ 9223372036854775807 := by have := HNn.out; omega
          obtain ⟨ad, eA, had, hca⟩ := HA.out a hl1'
          obtain ⟨bd, eB, hbd, hcb⟩ := HBv.out a hl2'
          obtain ⟨cd', eC, hcd, hcc⟩ := HCv.out a hl3'
          cases eA
          cases eB
          cases eC
          obtain ⟨t, ht⟩ : ∃ t, f a = t := ⟨_, rfl⟩
          obtain ⟨x, hx⟩ : ∃ x, g a = x := ⟨_, rfl⟩
          obtain ⟨y, hy⟩ : ∃ y, h a = y := ⟨_, rfl⟩
          rw [ht] at hca
          rw [hx] at hcb
          rw [hy] at hcc
          have hc0 := (HS.out.bel.cell (p := ad.add a) (by rw [block_of_add]; exact had)).trans hca
          have hc1 := (HS.out.bel.cell (p := bd.add a) (by rw [block_of_add]; exact hbd)).trans hcb
          have hc2 := (HS.out.bel.cell (p := cd'.add a) (by rw [block_of_add]; exact hcd)).trans hcc
          clear ht hx hy hca hcb hcc had hbd hcd
          go_upto_if 62 with (fail)
          go_cut [10, 15] (fun nv tv wx => tv = .bool true ∧ ∃ (now' : Int) (due' : Nat → Int) (F' : Nat → Prop), nv = .int .i64 now' ∧ TellS w gd p now' due' due' F' wx)
          case first => as_aux_lemma =>
            by_cases ht0 : t = 0
            · subst ht0
              clear hc1 hc2
              rcases (show x < 0 ∨ (¬ x < 0 ∧ 64 ≤ x) ∨ ((¬ x < 0 ∧ ¬ 64 ≤ x) ∧ y ≤ now) ∨ ((¬ x < 0 ∧ ¬ 64 ≤ x) ∧ ¬ y ≤ now ∧ 1099511627776 < y) ∨ ((¬ x < 0 ∧ ¬ 64 ≤ x) ∧ ¬ y ≤ now ∧ ¬ 1099511627776 < y) by omega) with h1 | ⟨h1, h2⟩ | ⟨⟨h1, h2⟩, h3⟩ | ⟨⟨h1, h2⟩, h3, h4⟩ | ⟨⟨h1, h2⟩, h3, h4⟩
              · have HK := Lib.hid (wset_bad wr F p 64 now due HS.out.wh x y (by omega))
                go_wp2_with fail
                refine HK.out.mono ?_
                rintro e w4 ⟨rfl, h9⟩
                subst w4
                clear HK
                go_wp2_with fail
                refine (err_no 1 1 true ⟨fun _ => rfl, fun _ => rfl⟩ wr (HEt.out.keep (HS.out.bel.mono (Nat.le_refl _)))).mono ?_
                rintro e w5 ⟨rfl, hb5⟩
                have HS5 := Lib.hid (HS.out.below hb5)
                clear hb5
                go_wp2_with fail
                go_meet
                exact ⟨rfl, _, _, _, rfl, HS5.out⟩
              · have HK := Lib.hid (wset_bad wr F p 64 now due HS.out.wh x y (by omega))
                go_wp2_with fail
                refine HK.out.mono ?_
                rintro e w4 ⟨rfl, h9⟩
                subst w4
                clear HK
                go_wp2_with fail
                refine (err_no 1 1 true ⟨fun _ => rfl, fun _ => rfl⟩ wr (HEt.out.keep (HS.out.bel.mono (Nat.le_refl _)))).mono ?_
                rintro e w5 ⟨rfl, hb5⟩
                have HS5 := Lib.hid (HS.out.below hb5)
                clear hb5
                go_wp2_with fail
                go_meet
                exact ⟨rfl, _, _, _, rfl, HS5.out⟩
              · have HK := Lib.hid (wset_bad wr F p 64 now due HS.out.wh x y (by omega))
                go_wp2_with fail
                refine HK.out.mono ?_
                rintro e w4 ⟨rfl, h9⟩
                subst w4
                clear HK
                go_wp2_with fail
                refine (err_no 1 1 true ⟨fun _ => rfl, fun _ => rfl⟩ wr (HEt.out.keep (HS.out.bel.mono (Nat.le_refl _)))).mono ?_
                rintro e w5 ⟨rfl, hb5⟩
                have HS5 := Lib.hid (HS.out.below hb5)
                clear hb5
                go_wp2_with fail
                go_meet
                exact ⟨rfl, _, _, _, rfl, HS5.out⟩
              · have HK := Lib.hid (wset_bad wr F p 64 now due HS.out.wh x y (by omega))
                go_wp2_with fail
                refine HK.out.mono ?_
                rintro e w4 ⟨rfl, h9⟩
                subst w4
                clear HK
                go_wp2_with fail
                refine (err_no 1 1 true ⟨fun _ => rfl, fun _ => rfl⟩ wr (HEt.out.keep (HS.out.bel.mono (Nat.le_refl _)))).mono ?_
                rintro e w5 ⟨rfl, hb5⟩
                have HS5 := Lib.hid (HS.out.below hb5)
                clear hb5
                go_wp2_with fail
                go_meet
                exact ⟨rfl, _, _, _, rfl, HS5.out⟩
              · obtain ⟨i, rfl⟩ : ∃ i : Nat, x = i := ⟨x.toNat, by omega⟩
                have hi : i < 64 := by omega
                have hi64 : (i : Int) < 64 := by omega
                have hi0 : (0 : Int) ≤ i := by omega
                have HI := Lib.hid hi
                have HY : Hid (now < y ∧ y ≤ 1099511627776) := Lib.hid (by omega)
                have HK := Lib.hid (wset_ok wr F p 64 now due HS.out.wh HS.out.tm (by omega) i hi y HY.out.1 HY.out.2)
                have h5 : ¬ 1099511627776 < y := h4
                have h6 : ¬ (64 : Int) ≤ i := h2
                clear hi
                go_wp2_with fail
                refine HK.out.mono ?_
                rintro e w4 ⟨rfl, F4, hW4, hF4, hf4⟩
                have HS4 := Lib.hid (HS.out.act hW4 hF4 hf4 (HS.out.tm.set HY.out.1 HY.out.2 i))
                clear hW4 hF4 hf4 HK
                go_wp2_with fail
                refine (err_nil 0 true ⟨fun _ => rfl, fun _ => rfl⟩ w4).mono ?_
                rintro e w5 ⟨rfl, hb5⟩
                have HS5 := Lib.hid (HS4.out.below hb5)
                have c3 := HS5.out.row.cell HI.out
                have c4 := HS5.out.row.frozen i
                clear hb5
                go_wp2_with fail
                go_meet
                exact ⟨rfl, _, _, _, rfl, HS5.out.put i y fun _ _ => rfl⟩
            · have ht0' : (t == 0) = false := beq_false_of_ne ht0
              by_cases ht1 : t = 1
              · subst ht1
                clear hc1 hc2 ht0 ht0'
                rcases (show x < 0 ∨ (¬ x < 0 ∧ 64 ≤ x) ∨ (¬ x < 0 ∧ ¬ 64 ≤ x) by omega) with h1 | ⟨h1, h2⟩ | ⟨h1, h2⟩
                · have HK := Lib.hid (wclear_bad (.pointer (some ⟨p, 0, none⟩)) x (by omega) wr)
                  go_wp2_with fail
                  refine HK.out.mono ?_
                  rintro e w4 ⟨rfl, h9⟩
                  subst w4
                  clear HK
                  go_wp2_with fail
                  refine (err_no 1 1 true ⟨fun _ => rfl, fun _ => rfl⟩ wr (HEt.out.keep (HS.out.bel.mono (Nat.le_refl _)))).mono ?_
                  rintro e w5 ⟨rfl, hb5⟩
                  have HS5 := Lib.hid (HS.out.below hb5)
                  clear hb5
                  go_wp2_with fail
                  go_meet
                  exact ⟨rfl, _, _, _, rfl, HS5.out⟩
                · have HK := Lib.hid (wclear_bad (.pointer (some ⟨p, 0, none⟩)) x (by omega) wr)
                  go_wp2_with fail
                  refine HK.out.mono ?_
                  rintro e w4 ⟨rfl, h9⟩
                  subst w4
                  clear HK
                  go_wp2_with fail
                  refine (err_no 1 1 true ⟨fun _ => rfl, fun _ => rfl⟩ wr (HEt.out.keep (HS.out.bel.mono (Nat.le_refl _)))).mono ?_
                  rintro e w5 ⟨rfl, hb5⟩
                  have HS5 := Lib.hid (HS.out.below hb5)
                  clear hb5
                  go_wp2_with fail
                  go_meet
                  exact ⟨rfl, _, _, _, rfl, HS5.out⟩
                · obtain ⟨i, rfl⟩ : ∃ i : Nat, x = i := ⟨x.toNat, by omega⟩
                  have hi : i < 64 := by omega
                  have hi64 : (i : Int) < 64 := by omega
                  have hi0 : (0 : Int) ≤ i := by omega
                  have HI := Lib.hid hi
                  have htm := HS.out.tm.due i hi
                  have hlo := HS.out.tm.lo
                  have hcr := HS.out.row.cell hi
                  by_cases hd0 : due i = 0
                  · have HK := Lib.hid (wclear_none wr F p 64 now due HS.out.wh i hi hd0)
                    rw [hd0] at hcr
                    clear htm hlo hd0 hi
                    go_wp2_with fail
                    refine HK.out.mono ?_
                    rintro e w4 ⟨rfl, h9⟩
                    subst w4
                    clear HK
                    go_wp2_with fail
                    refine (err_no 2 2 true ⟨fun _ => rfl, fun _ => rfl⟩ wr (HEt.out.keep (HS.out.bel.mono (Nat.le_refl _)))).mono ?_
                    rintro e w5 ⟨rfl, hb5⟩
                    have HS5 := Lib.hid (HS.out.below hb5)
                    clear hb5
                    go_wp2_with fail
                    go_meet
                    exact ⟨rfl, _, _, _, rfl, HS5.out⟩
                  · have HK := Lib.hid (wclear_ok wr F p 64 now due HS.out.wh i hi (by omega))
                    obtain ⟨d, hd⟩ : ∃ d, due i = d := ⟨_, rfl⟩
                    rw [hd] at hcr
                    have hdd : (d == 0) = false := beq_false_of_ne (by rw [← hd]; exact hd0)
                    clear htm hlo hd0 hi hd
                    go_wp2_with fail
                    refine HK.out.mono ?_
                    rintro e w4 ⟨rfl, hW4, hf4⟩
                    have HS4 := Lib.hid (HS.out.act hW4 (fun b hb => .inl hb) hf4 (HS.out.tm.clear i))
                    clear hW4 hf4 HK
                    go_wp2_with fail
                    refine (err_nil 0 true ⟨fun _ => rfl, fun _ => rfl⟩ w4).mono ?_
                    rintro e w5 ⟨rfl, hb5⟩
                    have HS5 := Lib.hid (HS4.out.below hb5)
                    have c3 := HS5.out.row.cell HI.out
                    have c4 := HS5.out.row.frozen i
                    clear hb5 hcr
                    go_wp2_with fail
                    go_meet
                    exact ⟨rfl, _, _, _, rfl, HS5.out.put i 0 fun _ _ => rfl⟩
              · have ht1' : (t == 1) = false := beq_false_of_ne ht1
                clear hc1 hc2 ht0 ht1
                rcases (show y < now ∨ (¬ y < now ∧ 1099511627776 < y) ∨ (¬ y < now ∧ ¬ 1099511627776 < y) by omega) with h1 | ⟨h1, h2⟩ | ⟨h1, h2⟩
                · have HK := Lib.hid (wtick_bad wr F p 64 now due HS.out.wh y (by omega))
                  go_wp2_with fail
                  refine wp_loop_rounds 1 ?_
                  rw [rounds_succ]
                  go_wp2_with fail
                  refine HK.out.mono ?_
                  rintro e w4 ⟨rfl, h9⟩
                  subst w4
                  clear HK
                  go_wp2_with fail
                  refine (err_no 1 1 true ⟨fun _ => rfl, fun _ => rfl⟩ wr (HEt.out.keep (HS.out.bel.mono (Nat.le_refl _)))).mono ?_
                  rintro e w5 ⟨rfl, hb5⟩
                  have HS5 := Lib.hid (HS.out.below hb5)
                  clear hb5
                  go_wp2_with fail
                  refine (ints_walk none none 0 0 0 0 (fun _ => 0) (fun _ => 0) w5 (fun j hj => absurd hj (by omega)) (fun j hj => absurd hj (by omega)) (by omega) (by omega) true ⟨fun _ => ⟨rfl, fun _ _ => rfl⟩, fun _ => rfl⟩).mono ?_
                  rintro e w6 ⟨rfl, q6, h6⟩
                  subst w6
                  go_wp2_with fail
                  go_meet
                  exact ⟨rfl, _, _, _, rfl, HS5.out.drewN q6⟩
                · have HK := Lib.hid (wtick_bad wr F p 64 now due HS.out.wh y (by omega))
                  go_wp2_with fail
                  refine wp_loop_rounds 1 ?_
                  rw [rounds_succ]
                  go_wp2_with fail
                  refine HK.out.mono ?_
                  rintro e w4 ⟨rfl, h9⟩
                  subst w4
                  clear HK
                  go_wp2_with fail
                  refine (err_no 1 1 true ⟨fun _ => rfl, fun _ => rfl⟩ wr (HEt.out.keep (HS.out.bel.mono (Nat.le_refl _)))).mono ?_
                  rintro e w5 ⟨rfl, hb5⟩
                  have HS5 := Lib.hid (HS.out.below hb5)
                  clear hb5
                  go_wp2_with fail
                  refine (ints_walk none none 0 0 0 0 (fun _ => 0) (fun _ => 0) w5 (fun j hj => absurd hj (by omega)) (fun j hj => absurd hj (by omega)) (by omega) (by omega) true ⟨fun _ => ⟨rfl, fun _ _ => rfl⟩, fun _ => rfl⟩).mono ?_
                  rintro e w6 ⟨rfl, q6, h6⟩
                  subst w6
                  go_wp2_with fail
                  go_meet
                  exact ⟨rfl, _, _, _, rfl, HS5.out.drewN q6⟩
                · have HY : Hid (now ≤ y ∧ y ≤ 1099511627776) := Lib.hid (by omega)
                  have h64 := dueL_le due y
                  have hnd := dueL_nodup due y
                  obtain ⟨L, hL⟩ : ∃ L, dueL due y = L := ⟨_, rfl⟩
                  rw [hL] at h64 hnd
                  have HL := Lib.hid hL
                  have HND := Lib.hid hnd
                  obtain ⟨n4, hn4⟩ : ∃ n4, L.length = n4 := ⟨_, rfl⟩
                  have HLen := Lib.hid hn4
                  rw [hn4] at h64
                  have h64' : (n4 : Int) ≤ 64 := by omega
                  clear hL hnd hn4
                  obtain ⟨wo, hwo⟩ : ∃ wo, wo = wr := ⟨_, rfl⟩
                  subst hwo
                  go_wp2_with fail
                  go_loopw [16] (fun wv wz => ∃ j : Nat, j ≤ n4 ∧ OwnV wz wo.heap.size wv j (fun t => (nth L t : Int)) ∧ RowP wz gd 3 64 (fun i => .int .i64 (doneD due L j i)) ∧ Fr (fun b => b = gd) wo wz) (fun wv _ => n4 + 1 - lenOf wv)
                  case atStart => exact ⟨0, by omega, OwnV.nil _ _ _, HS.out.row.congr fun i hi => by simp [doneD], Fr.refl _ _⟩
                  case round =>
                    obtain ⟨j, hj, hT, hrow, hfz⟩ := hrel
                    obtain ⟨A9, c9, e9, hv9, hnc9, hcm9, hnil9⟩ := hT.parts
                    subst e9
                    have HT := Lib.hid hT
                    have HRow := Lib.hid hrow
                    have HFz := Lib.hid hfz
                    have HV9 := Lib.hid hv9
                    clear hT hrow hfz hv9 hnc9 hcm9 hnil9
                    obtain ⟨wz, hwz⟩ : ∃ wz, wz = wr := ⟨_, rfl⟩
                    subst hwz
                    obtain ⟨D, hD⟩ : ∃ D, doneD due L j = D := ⟨_, rfl⟩
                    have HD := Lib.hid hD
                    rw [hD] at HRow
                    clear hD
                    go_wp2_with fail
                    go_loopw [17, 18] (fun bv kv wi => ∃ (q kk : Nat) (b : Int), kk ≤ 64 ∧ kv = .int .i64 kk ∧ bv = .int .i64 b ∧ BestI D y kk b ∧ wi = wz.drewN q) (fun _ kv _ => 64 - (intOf kv).toNat)
                    case atStart => exact ⟨0, 0, -1, by omega, rfl, rfl, BestI.start D y, rfl⟩
                    case round =>
                      obtain ⟨q, kk, b, hkk, rfl, rfl, hBI, hwi⟩ := hrel
                      subst hwi
                      have HBI := Lib.hid hBI
                      clear hBI
                      by_cases hlk : kk < 64
                      · have hlk' : (kk : Int) < 64 := by omega
                        have hck := HRow.out.cell hlk
                        obtain ⟨v, hv⟩ : ∃ v, D kk = v := ⟨_, rfl⟩
                        have HVv := Lib.hid hv
                        rw [hv] at hck
                        clear hv
                        by_cases h0 : 0 < v
                        · by_cases hvy : v ≤ y
                          · have HCk : Hid (0 < D kk ∧ D kk ≤ y) := Lib.hid (by rw [HVv.out]; exact ⟨h0, hvy⟩)
                            rcases HBI.out.cases with rfl | ⟨i, rfl, hi⟩
                            · go_wp2_with fail
                              go_quiet (fail)
                              go_wp2_with fail
                              go_roundw
                              case rel => exact ⟨_, kk + 1, kk, by omega, by go_num, rfl, HBI.out.first HCk.out, rfl⟩
                              case measure => simp [intOf]; omega
                            · have hi64 : i < 64 := by omega
                              have hi64' : (i : Int) < 64 := by omega
                              have hi0 : (0 : Int) ≤ i := by omega
                              have hib : ¬ (i : Int) < 0 := by omega
                              have hci := HRow.out.cell hi64
                              obtain ⟨u, hu⟩ : ∃ u, D i = u := ⟨_, rfl⟩
                              have HU := Lib.hid hu
                              rw [hu] at hci
                              clear hu hi hi64
                              by_cases hvu : v < u
                              · have HLT : Hid (D kk < D i) := Lib.hid (by rw [HVv.out, HU.out]; exact hvu)
                                go_wp2_with fail
                                go_quiet (fail)
                                go_wp2_with fail
                                go_roundw
                                case rel => exact ⟨_, kk + 1, kk, by omega, by go_num, rfl, HBI.out.take HCk.out HLT.out, rfl⟩
                                case measure => simp [intOf]; omega
                              · have HLT : Hid (¬ D kk < D i) := Lib.hid (by rw [HVv.out, HU.out]; exact hvu)
                                have hd : decide (v < u) = false := decide_eq_false hvu
                                clear hvu
                                go_wp2_with fail
                                go_quiet (fail)
                                go_wp2_with fail
                                go_roundw
                                case rel => exact ⟨_, kk + 1, i, by omega, by go_num, rfl, HBI.out.stay HCk.out (by have := HLT.out; omega), rfl⟩
                                case measure => simp [intOf]; omega
                          · have HNo : Hid (¬ (0 < D kk ∧ D kk ≤ y)) := Lib.hid (by rw [HVv.out]; exact fun e => hvy e.2)
                            have hd : decide (v ≤ y) = false := decide_eq_false hvy
                            clear hvy
                            go_wp2_with fail
                            go_quiet (fail)
                            go_wp2_with fail
                            go_roundw
                            case rel => exact ⟨_, kk + 1, b, by omega, by go_num, rfl, HBI.out.skip HNo.out, rfl⟩
                            case measure => simp [intOf]; omega
                        · have HNo : Hid (¬ (0 < D kk ∧ D kk ≤ y)) := Lib.hid (by rw [HVv.out]; exact fun e => h0 e.1)
                          have hd : decide (0 < v) = false := decide_eq_false h0
                          clear h0
                          go_wp2_with fail
                          go_quiet (fail)
                          go_wp2_with fail
                          go_roundw
                          case rel => exact ⟨_, kk + 1, b, by omega, by go_num, rfl, HBI.out.skip HNo.out, rfl⟩
                          case measure => simp [intOf]; omega
                      · obtain rfl : kk = 64 := by omega
                        rw [← HD.out] at HBI
                        rcases HBI.out.cases with rfl | ⟨i, rfl, hi⟩
                        · have hjn : j = n4 := by
                            have := best_none HL.out HBI.out (by rw [HLen.out]; exact hj)
                            rw [HLen.out] at this
                            exact this
                          subst hjn
                          have HRA : Hid (RowP (wz.drewN q) gd 3 64 (fun i => .int .i64 (afterD due y i))) := Lib.hid ((HRow.out.drewN q).congr fun i hi => by
                            rw [← doneD_end (due := due) (y := y) i hi, HL.out, HLen.out, HD.out])
                          have HT6 := Lib.hid (HS.out.turn (HFz.out.trans (Fr.drewN (F := fun b => b = gd) wz q) fun b e => .inl e) HRA.out)
                          have HK := Lib.hid (wtick_ok (wz.drewN q) F p 64 now due HT6.out.wh HT6.out.tm y HY.out.1 HY.out.2)
                          rw [HL.out, HLen.out] at HK
                          have HTq := Lib.hid (HT.out.drewN q)
                          clear HRow HRA HBI hlk hkk
                          obtain ⟨w6, hw6⟩ : ∃ w6, wz.drewN q = w6 := ⟨_, rfl⟩
                          rw [hw6] at HT6 HK HTq ⊢
                          clear hw6
                          go_wp2_with fail
                          refine HK.out.mono ?_
                          rintro e w7 ⟨A7, c7, rfl, hv7, hW7, hf7⟩
                          have HT7 := Lib.hid (HT6.out.act hW7 (fun b hb => .inl hb) hf7 (HT6.out.tm.tick HY.out.1 HY.out.2))
                          have HV7 := Lib.hid hv7
                          have HTw := Lib.hid (HTq.out.same fun b h1 h2 => hf7.block b h2 fun e => by have := HS.out.wh.lt b e; omega)
                          clear hv7 hW7 hf7 HK HTq HT6
                          go_wp2_with fail
                          refine (err_nil 0 true ⟨fun _ => rfl, fun _ => rfl⟩ w7).mono ?_
                          rintro e w8 ⟨rfl, hb8⟩
                          have HT8 := Lib.hid (HT7.out.below hb8)
                          obtain ⟨_, _, e7, hx7⟩ := (HV7.out.below hb8).vec
                          cases e7
                          obtain ⟨_, _, e8, hx8⟩ := (HTw.out.below hb8).vec
                          cases e8
                          have HX7 := Lib.hid hx7
                          have HX8 := Lib.hid hx8
                          clear hb8 hx7 hx8 HV7 HTw HT7
                          go_wp2_with fail
                          refine (ints_walk A7 A9 j j c7 c9 _ _ w8 HX7.out HX8.out (by omega) (by omega) true ⟨fun _ => ⟨rfl, fun _ _ => rfl⟩, fun _ => rfl⟩).mono ?_
                          rintro e w9 ⟨rfl, q9, h9⟩
                          subst w9
                          go_wp2_with fail
                          go_meet
                          exact ⟨rfl, _, _, _, rfl, HT8.out.drewN q9⟩
                        · have hbn := best_next HL.out HBI.out (by rw [HLen.out]; exact hj)
                          rw [HLen.out] at hbn
                          have HBN := Lib.hid hbn
                          have hi0 : (0 : Int) ≤ i := by omega
                          have hi64' : (i : Int) < 64 := by omega
                          have hib : ¬ (i : Int) < 0 := by omega
                          have HI := Lib.hid hi
                          have HZ := HFz.out.size
                          have HZh := Lib.hid HZ
                          clear hbn hi hlk hkk HBI HZ
                          go_wp2_with (at_builtin; refine wpList_append_int rfl (.tmp 160) (.tmp 162) rfl wo.heap.size _ j _ rfl ((HT.out.drewN q).alloc _) (i : Int) _ rfl (cell_new_at _ _ _ (by simp)) (by omega) (by have := HZh.out; simp; omega) ?_)
                          intro g4 cap4 w4 hT4 hb4 _ _
                          have HT4 : Hid (OwnV w4 wo.heap.size (.slice (some ⟨g4, 0, none⟩) (j + 1) cap4) (j + 1) (fun t => (nth L t : Int))) := Lib.hid (hT4.congr fun t ht => by
                            unfold upd
                            split
                            · subst t; rw [HBN.out.2]
                            · rfl)
                          have hf4 : Fr (fun b => wo.heap.size ≤ b) wz w4 := ((Fr.drewN (F := fun b => wo.heap.size ≤ b) wz q).trans (Fr.alloc (F := fun b => wo.heap.size ≤ b) _) fun b e => .inl e).trans (Fr.of_below (F := fun b => wo.heap.size ≤ b) hb4 fun b h _ => h) fun b e => .inl e
                          have HF4 := Lib.hid (HFz.out.trans hf4 fun b e => .inr e)
                          have HRow4 := Lib.hid (HRow.out.of_block (w' := w4) (hf4.block gd HRow.out.lt (fun e => by have := HS.out.row.lt; omega)))
                          have c3 := HRow4.out.cell HI.out
                          have c4 := HRow4.out.frozen i
                          clear hT4 hb4 hf4
                          go_wp2_with fail
                          go_roundw
                          case rel =>
                            refine ⟨j + 1, by have := HBN.out.1; omega, HT4.out.same fun b h1 h2 => Below.heap_setCell _ _ _ _ (fun e => by
                              have : b = gd := e
                              have := HS.out.row.lt
                              omega), (HRow4.out.set i (.int .i64 0)).congr fun t ht => ?_, HF4.out.trans (Fr.setCell (F := fun b => b = gd) rfl) fun b e => .inl e⟩
                            have := doneD_succ (due := due) (L := L) (k := j) (by rw [HLen.out]; exact HBN.out.1) t
                            rw [← HBN.out.2, HD.out] at this
                            rw [← this]
                            unfold upd setD
                            split <;> rfl
                          case measure => simp [lenOf]; have := HBN.out.1; omega
          case rest =>
            obtain ⟨rfl, now', due', F', rfl, hS5⟩ := hcut
            have HS5 := Lib.hid hS5
            clear hS5 HS hc0 hc1 hc2
            go_wp2_with fail
            go_loopw [21, 22] (fun cv q wz => ∃ t : Nat, t ≤ 64 ∧ q = .int .i64 t ∧ cv = .int .i64 (cntTo due' t : Nat) ∧ wz = wc) (fun _ q _ => 64 - (intOf q).toNat)
            case atStart => exact ⟨0, by omega, rfl, rfl, rfl⟩
            case round =>
              obtain ⟨t, ht, rfl, rfl, hwz⟩ := hrel
              subst hwz
              by_cases hlt4 : t < 64
              · have hlt4' : (t : Int) < 64 := by omega
                have hcr := HS5.out.row.cell hlt4
                have hcl := cntTo_le due' t
                have HSc : Hid (cntTo due' (t + 1) = cntTo due' t + if 0 < due' t then 1 else 0) := Lib.hid rfl
                obtain ⟨v, hv⟩ : ∃ v, due' t = v := ⟨_, rfl⟩
                obtain ⟨z, hz⟩ : ∃ z, cntTo due' t = z := ⟨_, rfl⟩
                rw [hv] at hcr HSc
                rw [hz] at HSc hcl ⊢
                clear hv hz
                have hz' : (z : Int) ≤ 64 := by omega
                by_cases h0 : 0 < v
                · have HV := Lib.hid h0
                  go_wp2_with fail
                  go_roundw
                  case rel => exact ⟨t + 1, by omega, by go_num, by rw [HSc.out, if_pos HV.out]; go_num, trivial⟩
                  case measure => simp [intOf]; omega
                · have HV := Lib.hid h0
                  have hd : decide (0 < v) = false := decide_eq_false h0
                  go_wp2_with fail
                  go_roundw
                  case rel => exact ⟨t + 1, by omega, by go_num, by rw [HSc.out, if_neg HV.out]; rfl, trivial⟩
                  case measure => simp [intOf]; omega
              · obtain rfl : t = 64 := by omega
                rw [cntTo_all HS5.out.tm]
                have HK := Lib.hid (wlen_walk wr F' p 64 now' due' HS5.out.wh)
                have h64 := cntD_le due'
                obtain ⟨z, hz⟩ : ∃ z, cntD due' = z := ⟨_, rfl⟩
                rw [hz] at HK h64 ⊢
                clear hz hlt4 ht
                go_wp2_with fail
                refine HK.out.mono ?_
                rintro e w6 ⟨rfl, hb6⟩
                have HS6 := Lib.hid (HS5.out.below hb6)
                clear hb6 HK
                go_wp2_with fail
                go_roundw
                case rel => exact ⟨a + 1, now', due', F', by omega, by omega, by omega, by go_num, rfl, HS6.out⟩
                case measure => simp [intOf]; omega
        · have hl3 : ¬ (a : Int) < k := by omega
          go_wp2_with fail
          go_ret
          exact ⟨rfl, HS.out.bel⟩
      · have hl2 : ¬ (a : Int) < m := by omega
        go_wp2_with fail
        go_ret
        exact ⟨rfl, HS.out.bel⟩
    · have hl1 : ¬ (a : Int) < n := by omega
      go_wp2_with fail
      go_ret
      exact ⟨rfl, HS.out.bel⟩

end Go.Proofs.YtfdldjlaedfllaaDoor

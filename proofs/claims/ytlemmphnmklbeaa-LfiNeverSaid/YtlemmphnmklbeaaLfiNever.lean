/- LfiNever: whatever is sent and comes, in whatever order, and whatever costs become: whichever next one each node takes, nobody comes back to it. For all arguments; no condition. -/
import Derived.Test.YtlemmphnmklbeaaLfiNet
import Derived.Test.YtlemmphnmklbeaaBellRun
import Derived.Test.YtlemmphnmklbeaaLoops
import Derived.Deep.Cut
import Derived.Deep.CutRange
import Derived.Deep.DeepCutAuto
namespace Go.Proofs.Ytlemmphnmklbeaa
open Go.RowKit
set_option linter.unusedVariables false

/-- Each next one is none, or a node with a lesser least. -/
def FallN (n : Nat) (e : Nat → Int) (r : Nat) (N : Nat → Int) : Prop := ∀ j, j < r → N j = -1 ∨ ∃ v : Nat, N j = v ∧ v < n ∧ e v < e j

theorem FallN.ok {n : Nat} {e N : Nat → Int} (h : FallN n e n N) : OkN n N := fun i hi => by
  rcases h i hi with h | ⟨v, h, hv, _⟩
  · omega
  · omega
theorem FallN.never {n : Nat} {e N : Nat → Int} (h : FallN n e n N) : ∀ v, v < n → ¬ OnC N v := fun v hv hc => by
  have hall : ∀ k a : Nat, itN N v k = a → a < n ∧ (a = v ∧ k = 0 ∨ e a < e v) := fun k => by
    induction k with
    | zero =>
      intro a ha
      rw [itN_zero] at ha
      exact ⟨by omega, .inl ⟨by omega, rfl⟩⟩
    | succ k ih =>
      intro a ha
      have hp := hc.pos k
      obtain ⟨b, hb⟩ : ∃ b : Nat, itN N v k = b := ⟨(itN N v k).toNat, by omega⟩
      obtain ⟨h1, h2⟩ := ih b hb
      rw [itN_succ hb] at ha
      rcases h b h1 with h3 | ⟨u, h3, h4, h5⟩
      · omega
      · obtain rfl : u = a := by omega
        refine ⟨h4, .inr ?_⟩
        rcases h2 with ⟨h2, _⟩ | h2
        · rw [h2] at h5; exact h5
        · omega
  obtain ⟨k, hk, hkv⟩ := hc
  rcases (hall k v hkv).2 with ⟨_, h0⟩ | h0
  · omega
  · omega

set_option maxRecDepth 100000 in
set_option maxHeartbeats 4000000 in
theorem lfiNever_walk (x : Int) (A : Option Addr) (m cp : Nat) (a b c : Nat → Int) (y : Int) (A1 : Option Addr) (n1 c1 : Nat) (f1 : Nat → Int) (A2 : Option Addr) (n2 c2 : Nat) (f2 : Nat → Int) (A3 : Option Addr) (n3 c3 : Nat) (f3 : Nat → Int) (A4 : Option Addr) (n4 c4 : Nat) (f4 : Nat → Int) (A5 : Option Addr) (n5 c5 : Nat) (f5 : Nat → Int) (w : World) (hl : Lnk w A m a b c) (hm : m ≤ 9223372036854775807) (hv1 : Vec w A1 n1 f1) (hn1m : n1 ≤ 9223372036854775807) (hv2 : Vec w A2 n2 f2) (hn2m : n2 ≤ 9223372036854775807) (hv3 : Vec w A3 n3 f3) (hn3m : n3 ≤ 9223372036854775807) (hv4 : Vec w A4 n4 f4) (hn4m : n4 ≤ 9223372036854775807) (hv5 : Vec w A5 n5 f5) (hn5m : n5 ≤ 9223372036854775807) :
    Calls Try.prog 4 #[.int .i64 x, .slice A m cp, .int .i64 y, .slice A1 n1 c1, .slice A2 n2 c2, .slice A3 n3 c3, .slice A4 n4 c4, .slice A5 n5 c5] w fun e w' => e = .returned (.bool true) ∧ Below w.heap.size w w' := by
  have HV5 := Lib.hid hv5
  clear hv5
  have HL := Lib.hid hl
  have HV1 := Lib.hid hv1
  have HV2 := Lib.hid hv2
  have HV3 := Lib.hid hv3
  have HV4 := Lib.hid hv4
  clear hl hv1 hv2 hv3 hv4
  go_enter Try.func4, Try.ntmps4
  go_wp2_with fail
  refine (free_walk w).mono ?_
  rintro e w1 ⟨rfl, hb1⟩
  have HB1 := Lib.hid hb1
  clear hb1
  go_wp2_with fail
  rcases bellRun_bad_aux x y m a b c with ⟨hg, h0, h1⟩ | ⟨v, hv, hf⟩
  · obtain ⟨n, rfl, hn1, hn8, hr⟩ := good_nat hg
    obtain ⟨t, rfl⟩ : ∃ t : Nat, y = t := ⟨y.toNat, by omega⟩
    have ht : t < n := by omega
    have hn8' : (n : Int) ≤ 8 := by omega
    have HG := Lib.hid hg
    have HR := Lib.hid hr
    clear hg hr h0 h1
    have hcall := lfiNew_ok n n rfl A m cp t t rfl a b c w1 (HL.out.keep HB1.out) hm HG.out ht
    refine hcall.mono ?_
    clear hcall
    rintro e w2 ⟨lab, Ad, rfl, hA, hlow, hb2⟩
    have HA := Lib.hid hA
    have HLO : Hid (∀ b, b < w.heap.size → lab b = []) := fun b hb => hlow b (Nat.lt_of_lt_of_le hb HB1.out.size)
    have HB2 := Lib.hid (keep HB1.out hb2)
    have HI0 : Hid (LInv n t (LS.new t (costF m a b c))) := LInv.new (cost_m HR.out)
    clear hA hlow hb2 HB1
    obtain ⟨fr, hfr⟩ : ∃ fr : Nat → Prop, fr = fun b => b < w.heap.size := ⟨_, rfl⟩
    obtain ⟨p0, hp0⟩ : ∃ p0, Ad.p = p0 := ⟨_, rfl⟩
    have HFG1 : Hid (∀ b, b < w.heap.size → fr b) := by rw [hfr]; exact fun b hb => hb
    have HFG3 : Hid (∀ b, fr b → b < w.heap.size) := by rw [hfr]; exact fun b hb => hb
    have HN4 : Hid (NetP w2 fr p0 n t 0 w2 (fun s => True)) := by
      refine NetP.of HA.out HI0.out (Nat.le_refl _) hp0 ?_ ?_ trivial
      · rw [hfr]; exact fun b hb => HLO.out b hb
      · rw [hfr]; exact fun b hb => Nat.lt_of_lt_of_le hb HB2.out.size
    rw [hp0]
    clear hfr hp0 HA HLO HI0
    go_wp2_with fail
    go_loopw [20] (fun q wr => ∃ k : Nat, k ≤ n1 ∧ q = .int .i64 k ∧ NetP wr fr p0 n t k wr (fun s => True) ∧ Below w.heap.size w wr) (fun q _ => n1 - (intOf q).toNat)
    case atStart => exact ⟨0, by omega, rfl, HN4.out, HB2.out⟩
    case round =>
      obtain ⟨k, hk, rfl, hN, hB⟩ := hrel
      obtain ⟨wo, hwo⟩ : ∃ wo : World, wo = wr := ⟨_, rfl⟩
      rw [← hwo] at hN hB ⊢
      have HN := Lib.hid hN
      have HBW := Lib.hid hB
      clear hwo hN hB HN4 HB2
      obtain ⟨F, hF⟩ : ∃ F : LS → Prop, F = fun s => True := ⟨_, rfl⟩
      obtain ⟨G, hG⟩ : ∃ G : LS → Prop, G = fun s => True := ⟨_, rfl⟩
      have HFG : Hid (∀ s o p q r, LInv n t s → F s → G (s.act n t o p q r)) := fun s o p q r hI hs => by
        rw [hG]
        trivial
      rw [← hF] at HN
      clear hF hG
      by_cases hin : k < n1 ∧ k < n2 ∧ k < n3 ∧ k < n4
      · obtain ⟨hi1, hi2, hi3, hi4⟩ := hin
        have hi1' : (k : Int) < n1 := by omega
        have hi2' : (k : Int) < n2 := by omega
        have hi3' : (k : Int) < n3 := by omega
        have hi4' : (k : Int) < n4 := by omega
        have hkm : k < maxLen := Nat.lt_of_lt_of_le hi1 hn1m
        obtain ⟨ad1, rfl, -, c1⟩ := HV1.out.keep HBW.out k hi1
        obtain ⟨ad2, rfl, -, c2⟩ := HV2.out.keep HBW.out k hi2
        obtain ⟨ad3, rfl, -, c3⟩ := HV3.out.keep HBW.out k hi3
        obtain ⟨ad4, rfl, -, c4⟩ := HV4.out.keep HBW.out k hi4
        obtain ⟨oo, ho⟩ : ∃ o, f1 k = o := ⟨_, rfl⟩
        obtain ⟨xa, hxa⟩ : ∃ o, f2 k = o := ⟨_, rfl⟩
        obtain ⟨xb, hxb⟩ : ∃ o, f3 k = o := ⟨_, rfl⟩
        obtain ⟨xc, hxc⟩ : ∃ o, f4 k = o := ⟨_, rfl⟩
        rw [ho] at c1
        rw [hxa] at c2
        rw [hxb] at c3
        rw [hxc] at c4
        clear ho hxa hxb hxc
        go_upto_if 78 with (fail)
        go_cut [20] (fun q wx => q = .int .i64 k ∧ NetP wo fr p0 n t (k + 1) wx G)
        case first =>
          by_cases h0 : oo = 0
          · have d0 : (oo == 0) = true := by simp [h0]
            have HGG : Hid (∀ s, LInv n t s → F s → G (s.send n xa xb)) := fun s hI hF => by
              have := HFG.out s oo xa xb xc hI hF
              rw [show s.act n t oo xa xb xc = s.send n xa xb from if_pos h0] at this
              exact this
            clear h0
            go_wp2_with fail
            refine wp_region_quiet_tail 9 (by kernel_rfl) (by kernel_rfl) ?_
            simp only [List.take_succ_cons, List.take_zero, List.drop_succ_cons, List.drop_zero]
            repeat (go_big_quiet_step (fail))
            refine wpQuiet_nil ?_
            go_wp2_with fail
            refine ((HN.out.drewN 1).send hn8 hkm xa xb HGG.out).mono ?_
            rintro e w6 ⟨v, rfl, hN6⟩
            have HN6 := Lib.hid hN6
            clear hN6
            go_wp2_with fail
            go_meet
            exact ⟨rfl, HN6.out⟩
          · have d0 : (oo == 0) = false := beq_false_of_ne h0
            by_cases h1 : oo = 1
            · have d1 : (oo == 1) = true := by simp [h1]
              have HGG : Hid (∀ s, LInv n t s → F s → G (s.take n t xa xb)) := fun s hI hF => by
                have := HFG.out s oo xa xb xc hI hF
                rw [show s.act n t oo xa xb xc = s.take n t xa xb from by unfold LS.act; rw [if_neg h0, if_pos h1]] at this
                exact this
              clear h0 h1
              go_wp2_with fail
              refine wp_region_quiet_tail 9 (by kernel_rfl) (by kernel_rfl) ?_
              simp only [List.take_succ_cons, List.take_zero, List.drop_succ_cons, List.drop_zero]
              repeat (go_big_quiet_step (fail))
              refine wpQuiet_nil ?_
              go_wp2_with fail
              refine ((HN.out.drewN 1).take hn8 hkm xa xb HGG.out).mono ?_
              rintro e w6 ⟨v, rfl, hN6⟩
              have HN6 := Lib.hid hN6
              clear hN6
              go_wp2_with fail
              go_meet
              exact ⟨rfl, HN6.out⟩
            · have d1 : (oo == 1) = false := beq_false_of_ne h1
              have HGG : Hid (∀ s, LInv n t s → F s → G (s.cost n t xa xb xc)) := fun s hI hF => by
                have := HFG.out s oo xa xb xc hI hF
                rw [show s.act n t oo xa xb xc = s.cost n t xa xb xc from by unfold LS.act; rw [if_neg h0, if_neg h1]] at this
                exact this
              clear h0 h1
              go_wp2_with fail
              refine wp_region_quiet_tail 13 (by kernel_rfl) (by kernel_rfl) ?_
              simp only [List.take_succ_cons, List.take_zero, List.drop_succ_cons, List.drop_zero]
              repeat (go_big_quiet_step (fail))
              refine wpQuiet_nil ?_
              go_wp2_with fail
              refine ((HN.out.drewN 1).cost hn8 xa xb xc HGG.out).mono ?_
              rintro e w6 ⟨v, rfl, hN6⟩
              have HN6 := Lib.hid hN6
              clear hN6
              go_wp2_with fail
              go_meet
              exact ⟨rfl, HN6.out⟩
        case rest =>
          obtain ⟨rfl, hN6⟩ := hcut
          have hb6 : Below w.heap.size wo wc := hN6.bel HFG1.out
          obtain ⟨lab6, A6, s6, hp6, hA6, hI6, hc6, hfr6, htc6, hG6⟩ := hN6
          have HA6 := Lib.hid hA6
          have HI6 := Lib.hid hI6
          have HC6 := Lib.hid hc6
          have HFR6 := Lib.hid (fun b hb => (hfr6 b hb).1)
          have HFL6 := Lib.hid (fun b hb => Nat.lt_of_lt_of_le (hfr6 b hb).2 htc6.size)
          have HB6 : Hid (Below w.heap.size w wc) := HBW.out.trans hb6
          have HP6 := Lib.hid hp6
          clear hb6 hp6 hA6 hI6 hc6 hfr6 htc6 hG6 HFG HN HBW hkm c1 c2 c3 c4
          go_wp2_with fail
          go_loopw [21, 22] (fun u q wi => ∃ i : Nat, i ≤ n ∧ q = .int .i64 i ∧ (∃ N : Nat → Int, OwnV wi wc.heap.size u i N ∧ FallN n s6.e i N) ∧ Below wc.heap.size wc wi) (fun _ q _ => n - (intOf q).toNat)
          case atStart => exact ⟨0, by omega, rfl, ⟨fun _ => 0, OwnV.nil _ _ _, fun j hj => absurd hj (by omega)⟩, Below.refl _ _⟩
          case round =>
            obtain ⟨i, hi, rfl, ⟨N, hu, hf⟩, hb7⟩ := hrel
            have HU := Lib.hid hu
            have HF := Lib.hid hf
            have HB7 := Lib.hid hb7
            clear hu hf hb7
            by_cases hin7 : i < n
            · have hin7' : (i : Int) < n := by omega
              have hA7 : LN wr lab6 A6 n t s6 := HA6.out.below HB7.out
              have hcall := lfiNexts lab6 A6 n t s6 i i rfl wr hA7 hn8 hin7
              rw [HP6.out] at hcall
              have HC := Lib.hid hcall
              obtain ⟨L, hL⟩ : ∃ L, s6.nexts n t i = L := ⟨_, rfl⟩
              have HLE : Hid (∀ j, j < L.length → ∃ v : Nat, atL L j = v ∧ v < n ∧ s6.e v < s6.e i) := fun j hj => by
                rw [← hL] at hj ⊢
                obtain ⟨v, h1, h2, h3⟩ := pick_at hj
                exact ⟨v, h1, h2, HI6.out.less hin7 h2 h3⟩
              have hLn : L.length ≤ n := by rw [← hL]; exact pickL_len _ _
              rw [hL] at HC
              clear hcall hA7 hL
              go_wp2_with fail
              refine HC.out.mono ?_
              rintro e w8 ⟨v8, rfl, hv8, hb8⟩
              obtain ⟨Av, cv, rfl, hvec8⟩ := hv8.vec
              have HVC := Lib.hid hvec8
              have HU8 := Lib.hid (HU.out.below hb8)
              have HB8 := Lib.hid (keep HB7.out hb8)
              clear hv8 hb8 hvec8 HC HU HB7
              have hA8 : LN w8 lab6 A6 n t s6 := HA6.out.below HB8.out
              have hcall2 := lfiLeast_at hA8 hn8 i i rfl hin7
              rw [HP6.out] at hcall2
              have HC2 := Lib.hid hcall2
              have HLS : Hid (∀ v : Nat, v < n → Calls Try.prog 13 #[.pointer (some ⟨p0, 0, none⟩), .int .i64 v] w8 fun e w' => e = .returned (.tuple #[.int .i64 (s6.e v), .nilIface]) ∧ w' = w8) := fun v hv => by
                have := lfiLeast_at hA8 hn8 v v rfl hv
                rw [HP6.out] at this
                exact this
              clear hcall2 hA8
              go_wp2_with fail
              refine HC2.out.mono ?_
              rintro e w9 ⟨rfl, h9⟩
              subst w9
              clear HC2
              obtain ⟨ei, hei⟩ : ∃ ei, s6.e i = ei := ⟨_, rfl⟩
              rw [hei]
              rw [hei] at HLE
              have HEI := Lib.hid hei
              clear hei
              have hLi : (0 : Int) ≤ L.length := by omega
              have hSZ : Hid (wc.heap.size ≤ w8.heap.size) := HB8.out.size
              by_cases hbb : 0 < L.length ∧ i < n5 ∧ 0 ≤ f5 i
              · obtain ⟨hb1, hb2, hb3⟩ := hbb
                have hb1' : (0 : Int) < L.length := by omega
                have hb2' : (i : Int) < n5 := by omega
                obtain ⟨ad5, rfl, -, c5'⟩ := HV5.out.keep (HB6.out.trans (HB8.out.mono HB6.out.size)) i hb2
                obtain ⟨z, hz⟩ : ∃ z : Nat, f5 i = z := ⟨(f5 i).toNat, by omega⟩
                rw [hz] at c5' hb3
                obtain ⟨j, hj⟩ : ∃ j, z % L.length = j := ⟨_, rfl⟩
                have hjl : j < L.length := by rw [← hj]; exact Nat.mod_lt _ hb1
                have hjl' : (j : Int) < L.length := by omega
                have htm : (z : Int).tmod (L.length : Int) = (j : Int) := by
                  rw [← hj]
                  exact (Int.ofNat_tmod z L.length).symm
                obtain ⟨v, hv1, hv2, hv3⟩ := HLE.out j hjl
                obtain ⟨adv, rfl, -, cv'⟩ := HVC.out j hjl
                rw [hv1] at cv'
                have hv2' : (v : Int) < n := by omega
                have HC3 := Lib.hid (HLS.out v hv2)
                obtain ⟨ev, hev⟩ : ∃ ev, s6.e v = ev := ⟨_, rfl⟩
                rw [hev] at HC3 hv3
                have HEV := Lib.hid hev
                have d9 : decide (ei ≤ ev) = false := decide_eq_false (by omega)
                have d8 : decide (0 < L.length) = true := decide_eq_true hb1
                have d7 : decide (i < n5) = true := decide_eq_true hb2
                have hv3' : ev < ei := hv3
                have hL0 : ((L.length : Int) == 0) = false := beq_false_of_ne (by omega)
                have hL1 : (L.length == 0) = false := beq_false_of_ne (by omega)
                have hL2 : ¬ (L.length = 0) := by omega
                have HFN : Hid (FallN n s6.e (i + 1) (upd N i v)) := fun q hq => by
                  unfold upd
                  by_cases e : q = i
                  · rw [if_pos e]
                    exact .inr ⟨v, rfl, hv2, by rw [e, HEV.out, HEI.out]; exact hv3⟩
                  · rw [if_neg e]
                    exact HF.out q (by omega)
                clear hev hz hj hv1 HLE HVC HLS HF
                go_wp2_with fail
                refine HC3.out.mono ?_
                rintro e w9 ⟨rfl, h9⟩
                subst w9
                clear HC3
                go_wp2_with (at_builtin; refine wpList_append_int rfl (.tmp 182) (.tmp 184) rfl wc.heap.size _ _ _ rfl (HU8.out.alloc _) v _ rfl (cell_new_at _ _ _ rfl) (by omega) (by have := hSZ.out; simp; omega) ?_)
                intro g10 cap10 w10 hT10 hb10 _ _
                have HT10 := Lib.hid hT10
                have HB10 : Hid (Below wc.heap.size wc w10) := (HB8.out.alloc hSZ.out _).trans hb10
                clear hT10 hb10
                go_wp2_with fail
                go_roundw
                case rel => exact ⟨i + 1, by omega, by go_num, ⟨_, HT10.out, HFN.out⟩, HB10.out⟩
                case measure => simp [intOf]; omega
              · have HFN : Hid (FallN n s6.e (i + 1) (upd N i (-1))) := fun q hq => by
                  unfold upd
                  by_cases e : q = i
                  · rw [if_pos e]
                    exact .inl rfl
                  · rw [if_neg e]
                    exact HF.out q (by omega)
                have HC55 : Hid (i < n5 → ∃ ad, A5 = some ad ∧ w8.cell? (ad.add i) = some (.int .i64 (f5 i))) := fun h => by
                  obtain ⟨ad5, h1, -, h2⟩ := HV5.out.keep (HB6.out.trans (HB8.out.mono HB6.out.size)) i h
                  exact ⟨ad5, h1, h2⟩
                have HBB := Lib.hid hbb
                clear HLE HVC HLS HF hbb
                by_cases hb1 : 0 < L.length
                · have hb1' : (0 : Int) < L.length := by omega
                  have d8 : decide (0 < L.length) = true := decide_eq_true hb1
                  by_cases hb2 : i < n5
                  · have hb2' : (i : Int) < n5 := by omega
                    have d7 : decide (i < n5) = true := decide_eq_true hb2
                    obtain ⟨ad5, rfl, c5'⟩ := HC55.out hb2
                    obtain ⟨z, hz⟩ : ∃ z, f5 i = z := ⟨_, rfl⟩
                    have hz0 : z < 0 := by
                      rw [← hz]
                      exact Classical.byContradiction fun h => HBB.out ⟨hb1, hb2, by omega⟩
                    rw [hz] at c5'
                    have d6 : decide (0 ≤ z) = false := decide_eq_false (by omega)
                    clear hz
                    go_wp2_with (at_builtin; refine wpList_append_int rfl (.tmp 182) (.tmp 184) rfl wc.heap.size _ _ _ rfl (HU8.out.alloc _) (-1) _ rfl (cell_new_at _ _ _ rfl) (by omega) (by have := hSZ.out; simp; omega) ?_)
                    intro g10 cap10 w10 hT10 hb10 _ _
                    have HT10 := Lib.hid hT10
                    have HB10 : Hid (Below wc.heap.size wc w10) := (HB8.out.alloc hSZ.out _).trans hb10
                    clear hT10 hb10
                    go_wp2_with fail
                    go_roundw
                    case rel => exact ⟨i + 1, by omega, by go_num, ⟨_, HT10.out, HFN.out⟩, HB10.out⟩
                    case measure => simp [intOf]; omega
                  · have d7 : decide (i < n5) = false := decide_eq_false hb2
                    go_wp2_with (at_builtin; refine wpList_append_int rfl (.tmp 182) (.tmp 184) rfl wc.heap.size _ _ _ rfl (HU8.out.alloc _) (-1) _ rfl (cell_new_at _ _ _ rfl) (by omega) (by have := hSZ.out; simp; omega) ?_)
                    intro g10 cap10 w10 hT10 hb10 _ _
                    have HT10 := Lib.hid hT10
                    have HB10 : Hid (Below wc.heap.size wc w10) := (HB8.out.alloc hSZ.out _).trans hb10
                    clear hT10 hb10
                    go_wp2_with fail
                    go_roundw
                    case rel => exact ⟨i + 1, by omega, by go_num, ⟨_, HT10.out, HFN.out⟩, HB10.out⟩
                    case measure => simp [intOf]; omega
                · have hb0 : L.length = 0 := by omega
                  have d8 : decide (0 < L.length) = false := decide_eq_false hb1
                  have d8' : decide ((0 : Int) < L.length) = false := decide_eq_false (by omega)
                  clear hb0
                  go_wp2_with (at_builtin; refine wpList_append_int rfl (.tmp 182) (.tmp 184) rfl wc.heap.size _ _ _ rfl (HU8.out.alloc _) (-1) _ rfl (cell_new_at _ _ _ rfl) (by omega) (by have := hSZ.out; simp; omega) ?_)
                  intro g10 cap10 w10 hT10 hb10 _ _
                  have HT10 := Lib.hid hT10
                  have HB10 : Hid (Below wc.heap.size wc w10) := (HB8.out.alloc hSZ.out _).trans hb10
                  clear hT10 hb10
                  go_wp2_with fail
                  go_roundw
                  case rel => exact ⟨i + 1, by omega, by go_num, ⟨_, HT10.out, HFN.out⟩, HB10.out⟩
                  case measure => simp [intOf]; omega
            · have ei : i = n := by omega
              obtain ⟨Au, cu, rfl, hvu⟩ := HU.out.vec
              have HFE : Hid (FallN n s6.e n N) := by
                have := HF.out
                rw [ei] at this
                exact this
              have hvn : Vec wr Au n N := by rw [← ei]; exact hvu
              have hcall := loops_ok Au n cu N wr hvn (by omega) HFE.out.ok (fun _ => false) (fun v hv => ⟨fun h => absurd h (by decide), fun h => absurd h (HFE.out.never v hv)⟩)
              rw [show (pickL (fun _ => false) n) = [] from by
                unfold pickL
                rw [List.filter_eq_nil_iff.2 (by simp)]
                rfl] at hcall
              have HC := Lib.hid hcall
              have HX : Hid (NetP wr fr p0 n t (k + 1) wr (fun s => True) ∧ Below w.heap.size w wr) :=
                ⟨NetP.of (HA6.out.below HB7.out) HI6.out HC6.out HP6.out HFR6.out (fun b hb => Nat.lt_of_lt_of_le (HFL6.out b hb) HB7.out.size) trivial, HB6.out.trans (HB7.out.mono HB6.out.size)⟩
              have hid7 : decide ((i : Int) < n) = false := decide_eq_false (by omega)
              have hid8 : decide (n ≤ i) = true := decide_eq_true (by omega)
              have HIN := Lib.hid ei
              subst ei
              clear hcall hvn hvu HU HF HB7
              go_wp2_with fail
              refine HC.out.mono ?_
              rintro e w8 ⟨v8, rfl, hv8, hb8⟩
              obtain ⟨Av, cv, rfl, -⟩ := hv8.vec
              have HX8 : Hid (NetP w8 fr p0 i t (k + 1) w8 (fun s => True) ∧ Below w.heap.size w w8) := ⟨(HX.out.1.below hb8).here, keep HX.out.2 hb8⟩
              clear hv8 hb8 HC HX
              go_wp2_with fail
              go_roundw
              case rel => exact ⟨k + 1, by omega, by go_num, HX8.out.1, HX8.out.2⟩
              case measure => simp [intOf]; omega
      · have HNX : Hid (Below w.heap.size w wo) := HBW.out
        by_cases h1 : k < n1
        · have h1' : (k : Int) < n1 := by omega
          have e1 : decide (k < n1) = true := decide_eq_true h1
          by_cases h2 : k < n2
          · have h2' : (k : Int) < n2 := by omega
            have e2 : decide (k < n2) = true := decide_eq_true h2
            by_cases h3 : k < n3
            · have h3' : (k : Int) < n3 := by omega
              have e3 : decide (k < n3) = true := decide_eq_true h3
              have h4 : ¬ k < n4 := fun h => hin ⟨h1, h2, h3, h⟩
              have e4 : decide (k < n4) = false := decide_eq_false h4
              clear hin
              go_wp2_with fail
              go_ret
              exact ⟨rfl, HNX.out⟩
            · have e3 : decide (k < n3) = false := decide_eq_false h3
              clear hin
              go_wp2_with fail
              go_ret
              exact ⟨rfl, HNX.out⟩
          · have e2 : decide (k < n2) = false := decide_eq_false h2
            clear hin
            go_wp2_with fail
            go_ret
            exact ⟨rfl, HNX.out⟩
        · have e1 : decide (k < n1) = false := decide_eq_false h1
          clear hin
          go_wp2_with fail
          go_ret
          exact ⟨rfl, HNX.out⟩
  · have hbad : Calls Try.prog 7 #[.int .i64 x, .slice A m cp, .int .i64 y] w1 fun e w' => e = .returned (.tuple #[.pointer none, errNo v]) ∧ Below w1.heap.size w1 w' := by
      rcases hf with hf | ⟨hg, hy, rfl⟩
      · exact lfiNew_bad x A m cp y a b c w1 (HL.out.keep HB1.out) hm v hv hf
      · obtain ⟨n, rfl, hn1, hn8, hr⟩ := good_nat hg
        exact lfiNew_range n n rfl A m cp y a b c w1 (HL.out.keep HB1.out) hm hg hy
    have HC := Lib.hid hbad
    clear hbad hf hv
    refine HC.out.mono ?_
    rintro e w2 ⟨rfl, hb2⟩
    have HB2 := Lib.hid (keep HB1.out hb2)
    clear hb2 HB1 HC
    go_wp2_with fail
    go_ret
    exact ⟨rfl, HB2.out⟩

end Go.Proofs.Ytlemmphnmklbeaa

/- LfiFalls: the least never rises: it is no more than what a node thinks, and just the least that it ever thought. For all arguments; no condition. -/
import Derived.Test.YtlemmphnmklbeaaLfiNet
import Derived.Test.YtlemmphnmklbeaaBellRun
import Derived.Test.YtlemmphnmklbeaaRefBell
import Derived.Deep.Cut
import Derived.Deep.CutRange
import Derived.Deep.DeepCutAuto
namespace Go.Proofs.Ytlemmphnmklbeaa
open Go.RowKit
set_option linter.unusedVariables false

attribute [local go_sem high] run_min_pair run_max_pair

set_option maxRecDepth 100000 in
set_option maxHeartbeats 4000000 in
theorem lfiFalls_walk (x : Int) (A : Option Addr) (m cp : Nat) (a b c : Nat → Int) (y : Int) (A1 : Option Addr) (n1 c1 : Nat) (f1 : Nat → Int) (A2 : Option Addr) (n2 c2 : Nat) (f2 : Nat → Int) (A3 : Option Addr) (n3 c3 : Nat) (f3 : Nat → Int) (A4 : Option Addr) (n4 c4 : Nat) (f4 : Nat → Int) (w : World) (hl : Lnk w A m a b c) (hm : m ≤ 9223372036854775807) (hv1 : Vec w A1 n1 f1) (hn1m : n1 ≤ 9223372036854775807) (hv2 : Vec w A2 n2 f2) (hn2m : n2 ≤ 9223372036854775807) (hv3 : Vec w A3 n3 f3) (hn3m : n3 ≤ 9223372036854775807) (hv4 : Vec w A4 n4 f4) (hn4m : n4 ≤ 9223372036854775807) :
    Calls Try.prog 3 #[.int .i64 x, .slice A m cp, .int .i64 y, .slice A1 n1 c1, .slice A2 n2 c2, .slice A3 n3 c3, .slice A4 n4 c4] w fun e w' => e = .returned (.bool true) ∧ Below w.heap.size w w' := by
  have HL := Lib.hid hl
  have HV1 := Lib.hid hv1
  have HV2 := Lib.hid hv2
  have HV3 := Lib.hid hv3
  have HV4 := Lib.hid hv4
  clear hl hv1 hv2 hv3 hv4
  go_enter Try.func3, Try.ntmps3
  go_wp2_with fail
  refine (free_walk w).mono ?_
  rintro e w1 ⟨rfl, hb1⟩
  have HB1 := Lib.hid hb1
  clear hb1
  go_wp2_with fail
  rcases bellRun_bad_aux x y m a b c with ⟨hg, h0, h1⟩ | ⟨v, hv, hf⟩
  · obtain ⟨n, rfl, hn1, hn8, hr⟩ := good_nat hg
    obtain ⟨t, rfl⟩ : ∃ t : Nat, y = t := ⟨y.toNat, by omega⟩
    have ht : t < n := by omega
    have hn8' : (n : Int) ≤ 8 := by omega
    have HG := Lib.hid hg
    have HR := Lib.hid hr
    clear hg hr h0 h1
    have hcall := lfiNew_ok n n rfl A m cp t t rfl a b c w1 (HL.out.keep HB1.out) hm HG.out ht
    refine hcall.mono ?_
    clear hcall
    rintro e w2 ⟨lab, Ad, rfl, hA, hlow, hb2⟩
    have HA := Lib.hid hA
    have HLO : Hid (∀ b, b < w.heap.size → lab b = []) := fun b hb => hlow b (Nat.lt_of_lt_of_le hb HB1.out.size)
    have HB2 := Lib.hid (keep HB1.out hb2)
    have HI0 : Hid (LInv n t (LS.new t (costF m a b c))) := LInv.new (cost_m HR.out)
    clear hA hlow hb2 HB1
    go_wp2_with fail
    have hcall := startOf_walk n t n t rfl rfl w2 ht (by omega)
    refine hcall.mono ?_
    clear hcall
    rintro e w4 ⟨gw, cw, rfl, hgw, hrow, hb4⟩
    obtain ⟨fr, hfr⟩ : ∃ fr : Nat → Prop, fr = fun b => b < w.heap.size ∨ b = gw := ⟨_, rfl⟩
    obtain ⟨p0, hp0⟩ : ∃ p0, Ad.p = p0 := ⟨_, rfl⟩
    have HFG1 : Hid (∀ b, b < w.heap.size → fr b) := by rw [hfr]; exact fun b hb => .inl hb
    have HFG2 : Hid (fr gw) := by rw [hfr]; exact .inr rfl
    have HGW : Hid (w.heap.size ≤ gw) := Nat.le_trans HB2.out.size hgw
    have HN4 : Hid (NetP w4 fr p0 n t 0 w4 (fun s => ∀ i, i < n → s.e i = startF t i)) := by
      refine NetP.of (HA.out.below hb4) HI0.out (Nat.le_refl _) hp0 ?_ ?_ (fun i _ => rfl)
      · rw [hfr]
        rintro b (hb | rfl)
        · exact HLO.out b hb
        · exact HA.out.free _ hgw
      · rw [hfr]
        rintro b (hb | rfl)
        · exact Nat.lt_of_lt_of_le hb (Nat.le_trans HB2.out.size hb4.size)
        · exact hrow.lt
    have HR4 := Lib.hid hrow
    have HB4 := Lib.hid (keep HB2.out hb4)
    rw [hp0]
    clear hrow hb4 hgw hfr hp0 HA HLO HB2 HI0
    go_wp2_with fail
    go_loopw [19] (fun q wr => ∃ k : Nat, k ≤ n1 ∧ q = .int .i64 k ∧ ∃ E : Nat → Int, NetP wr fr p0 n t k wr (fun s => ∀ i, i < n → s.e i = E i) ∧ RowP wr gw 3 n (fun i => .int .i64 (E i)) ∧ Below w.heap.size w wr) (fun q _ => n1 - (intOf q).toNat)
    case atStart => exact ⟨0, by omega, rfl, startF t, HN4.out, HR4.out, HB4.out⟩
    case round =>
      obtain ⟨k, hk, rfl, E, hN, hR, hB⟩ := hrel
      obtain ⟨wo, hwo⟩ : ∃ wo : World, wo = wr := ⟨_, rfl⟩
      rw [← hwo] at hN hR hB ⊢
      have HN := Lib.hid hN
      have HRW := Lib.hid hR
      have HBW := Lib.hid hB
      clear hwo hN hR hB HN4 HR4 HB4
      obtain ⟨F, hF⟩ : ∃ F : LS → Prop, F = fun s => ∀ i, i < n → s.e i = E i := ⟨_, rfl⟩
      obtain ⟨G, hG⟩ : ∃ G : LS → Prop, G = fun s => ∀ i, i < n → s.e i = min (E i) (s.f i) := ⟨_, rfl⟩
      have HFG : Hid (∀ s o p q r, LInv n t s → F s → G (s.act n t o p q r)) := fun s o p q r hI hs => by
        rw [hF] at hs
        rw [hG]
        intro i hi
        rw [hI.act_min o p q r hi, hs i hi]
      have HGE := Lib.hid hG
      rw [← hF] at HN
      clear hF hG
      by_cases hin : k < n1 ∧ k < n2 ∧ k < n3 ∧ k < n4
      · obtain ⟨hi1, hi2, hi3, hi4⟩ := hin
        have hi1' : (k : Int) < n1 := by omega
        have hi2' : (k : Int) < n2 := by omega
        have hi3' : (k : Int) < n3 := by omega
        have hi4' : (k : Int) < n4 := by omega
        have hkm : k < maxLen := Nat.lt_of_lt_of_le hi1 hn1m
        obtain ⟨ad1, rfl, -, c1⟩ := HV1.out.keep HBW.out k hi1
        obtain ⟨ad2, rfl, -, c2⟩ := HV2.out.keep HBW.out k hi2
        obtain ⟨ad3, rfl, -, c3⟩ := HV3.out.keep HBW.out k hi3
        obtain ⟨ad4, rfl, -, c4⟩ := HV4.out.keep HBW.out k hi4
        obtain ⟨oo, ho⟩ : ∃ o, f1 k = o := ⟨_, rfl⟩
        obtain ⟨xa, hxa⟩ : ∃ o, f2 k = o := ⟨_, rfl⟩
        obtain ⟨xb, hxb⟩ : ∃ o, f3 k = o := ⟨_, rfl⟩
        obtain ⟨xc, hxc⟩ : ∃ o, f4 k = o := ⟨_, rfl⟩
        rw [ho] at c1
        rw [hxa] at c2
        rw [hxb] at c3
        rw [hxc] at c4
        clear ho hxa hxb hxc
        go_upto_if 74 with (fail)
        go_cut [19] (fun q wx => q = .int .i64 k ∧ NetP wo fr p0 n t (k + 1) wx G)
        case first =>
          by_cases h0 : oo = 0
          · have d0 : (oo == 0) = true := by simp [h0]
            have HGG : Hid (∀ s, LInv n t s → F s → G (s.send n xa xb)) := fun s hI hF => by
              have := HFG.out s oo xa xb xc hI hF
              rw [show s.act n t oo xa xb xc = s.send n xa xb from if_pos h0] at this
              exact this
            clear h0
            go_wp2_with fail
            refine wp_region_quiet_tail 9 (by kernel_rfl) (by kernel_rfl) ?_
            simp only [List.take_succ_cons, List.take_zero, List.drop_succ_cons, List.drop_zero]
            repeat (go_big_quiet_step (fail))
            refine wpQuiet_nil ?_
            go_wp2_with fail
            refine ((HN.out.drewN 1).send hn8 hkm xa xb HGG.out).mono ?_
            rintro e w6 ⟨v, rfl, hN6⟩
            have HN6 := Lib.hid hN6
            clear hN6
            go_wp2_with fail
            go_meet
            exact ⟨rfl, HN6.out⟩
          · have d0 : (oo == 0) = false := beq_false_of_ne h0
            by_cases h1 : oo = 1
            · have d1 : (oo == 1) = true := by simp [h1]
              have HGG : Hid (∀ s, LInv n t s → F s → G (s.take n t xa xb)) := fun s hI hF => by
                have := HFG.out s oo xa xb xc hI hF
                rw [show s.act n t oo xa xb xc = s.take n t xa xb from by unfold LS.act; rw [if_neg h0, if_pos h1]] at this
                exact this
              clear h0 h1
              go_wp2_with fail
              refine wp_region_quiet_tail 9 (by kernel_rfl) (by kernel_rfl) ?_
              simp only [List.take_succ_cons, List.take_zero, List.drop_succ_cons, List.drop_zero]
              repeat (go_big_quiet_step (fail))
              refine wpQuiet_nil ?_
              go_wp2_with fail
              refine ((HN.out.drewN 1).take hn8 hkm xa xb HGG.out).mono ?_
              rintro e w6 ⟨v, rfl, hN6⟩
              have HN6 := Lib.hid hN6
              clear hN6
              go_wp2_with fail
              go_meet
              exact ⟨rfl, HN6.out⟩
            · have d1 : (oo == 1) = false := beq_false_of_ne h1
              have HGG : Hid (∀ s, LInv n t s → F s → G (s.cost n t xa xb xc)) := fun s hI hF => by
                have := HFG.out s oo xa xb xc hI hF
                rw [show s.act n t oo xa xb xc = s.cost n t xa xb xc from by unfold LS.act; rw [if_neg h0, if_neg h1]] at this
                exact this
              clear h0 h1
              go_wp2_with fail
              refine wp_region_quiet_tail 13 (by kernel_rfl) (by kernel_rfl) ?_
              simp only [List.take_succ_cons, List.take_zero, List.drop_succ_cons, List.drop_zero]
              repeat (go_big_quiet_step (fail))
              refine wpQuiet_nil ?_
              go_wp2_with fail
              refine ((HN.out.drewN 1).cost hn8 xa xb xc HGG.out).mono ?_
              rintro e w6 ⟨v, rfl, hN6⟩
              have HN6 := Lib.hid hN6
              clear hN6
              go_wp2_with fail
              go_meet
              exact ⟨rfl, HN6.out⟩
        case rest =>
          obtain ⟨rfl, hN6⟩ := hcut
          have hb6 : Below w.heap.size wo wc := hN6.bel HFG1.out
          obtain ⟨lab6, A6, s6, hp6, hA6, hI6, hc6, hfr6, htc6, hG6⟩ := hN6
          rw [HGE.out] at hG6
          have HA6 := Lib.hid hA6
          have HI6 := Lib.hid hI6
          have HC6 := Lib.hid hc6
          have HFR6 := Lib.hid (fun b hb => (hfr6 b hb).1)
          have HFL6 := Lib.hid (fun b hb => Nat.lt_of_lt_of_le (hfr6 b hb).2 htc6.size)
          have HG6 := Lib.hid hG6
          have HR6 : Hid (RowP wc gw 3 n (fun i => .int .i64 (E i))) := HRW.out.of_block (htc6.block gw HRW.out.lt fun h => h HFG2.out)
          have HB6 : Hid (Below w.heap.size w wc) := HBW.out.trans hb6
          have HP6 := Lib.hid hp6
          clear hb6 hp6 hA6 hI6 hc6 hfr6 htc6 hG6 HFG HGE HN HRW HBW hkm
          go_wp2_with fail
          go_loopw [20] (fun q wi => ∃ i : Nat, i ≤ n ∧ q = .int .i64 i ∧ LN wi lab6 A6 n t s6 ∧ RowP wi gw 3 n (fun j => .int .i64 (if j < i then s6.e j else E j)) ∧ Below w.heap.size w wi ∧ wc.heap.size ≤ wi.heap.size) (fun q _ => n - (intOf q).toNat)
          case atStart => exact ⟨0, by omega, rfl, HA6.out, HR6.out.congr fun j _ => by rw [if_neg (by omega)], HB6.out, Nat.le_refl _⟩
          case round =>
            obtain ⟨i, hi, rfl, hA7, hr7, hb7, hz7⟩ := hrel
            by_cases hin7 : i < n
            · have hin7' : (i : Int) < n := by omega
              have c5 := hr7.cell hin7
              rw [if_neg (by omega)] at c5
              have c6 := hr7.frozen i
              have hge := (HI6.out.low i hin7).2
              have heq := HG6.out i hin7
              have HNX : Hid (LN (wr.setCell ⟨gw, i, none⟩ (.int .i64 (s6.e i))) lab6 A6 n t s6 ∧ RowP (wr.setCell ⟨gw, i, none⟩ (.int .i64 (s6.e i))) gw 3 n (fun j => .int .i64 (if j < i + 1 then s6.e j else E j)) ∧ Below w.heap.size w (wr.setCell ⟨gw, i, none⟩ (.int .i64 (s6.e i))) ∧ wc.heap.size ≤ (wr.setCell ⟨gw, i, none⟩ (.int .i64 (s6.e i))).heap.size) := by
                refine ⟨hA7.same (fun b hb hl => Below.heap_setCell _ _ _ _ (fun e => hl (by rw [e]; exact HFR6.out gw HFG2.out))) (by rw [size_setCell]; exact Nat.le_refl _), (hr7.set i _).congr fun j _ => ?_, hb7.setCell (by exact HGW.out) _, by rw [size_setCell]; exact hz7⟩
                unfold upd
                by_cases e : j = i
                · subst e; simp
                · rw [if_neg e]
                  show Value.int .i64 (if j < i then s6.e j else E j) = Value.int .i64 (if j < i + 1 then s6.e j else E j)
                  by_cases e2 : j < i
                  · rw [if_pos e2, if_pos (by omega)]
                  · rw [if_neg e2, if_neg (by omega)]
              have hcall := lfiDist_at hA7 hn8 i i rfl hin7
              rw [HP6.out] at hcall
              have HC := Lib.hid hcall
              have hcall2 := lfiLeast_at hA7 hn8 i i rfl hin7
              rw [HP6.out] at hcall2
              have HC2 := Lib.hid hcall2
              obtain ⟨d, hd⟩ : ∃ d, s6.f i = d := ⟨_, rfl⟩
              obtain ⟨u, hu⟩ : ∃ u, E i = u := ⟨_, rfl⟩
              rw [hd] at HC hge heq
              rw [hu] at c5 heq
              rw [heq] at HC2 HNX
              have d1 : decide (d < min u d) = false := decide_eq_false (by omega)
              have d2 : (min u d == min u d) = true := by simp
              have d3 : (min u d != min u d) = false := by simp
              clear hA7 hr7 hb7 hz7 hcall hcall2 hd hu heq hge HA6 HR6 HB6
              go_wp2_with fail
              refine HC.out.mono ?_
              rintro e w8 ⟨rfl, h8⟩
              subst w8
              clear HC
              go_wp2_with fail
              refine HC2.out.mono ?_
              rintro e w8 ⟨rfl, h8⟩
              subst w8
              clear HC2
              go_wp2_with fail
              go_roundw
              case rel => exact ⟨i + 1, by omega, by go_num, HNX.out.1, HNX.out.2.1, HNX.out.2.2.1, HNX.out.2.2.2⟩
              case measure => simp [intOf]; omega
            · have ei : i = n := by omega
              have HNX : Hid (NetP wr fr p0 n t (k + 1) wr (fun s => ∀ i, i < n → s.e i = s6.e i) ∧ RowP wr gw 3 n (fun j => .int .i64 (s6.e j)) ∧ Below w.heap.size w wr) :=
                ⟨NetP.of hA7 HI6.out HC6.out HP6.out HFR6.out (fun b hb => Nat.lt_of_lt_of_le (HFL6.out b hb) hz7) (fun i _ => rfl), hr7.congr fun j hj => by rw [if_pos (by omega)], hb7⟩
              have hid7 : decide ((i : Int) < n) = false := decide_eq_false (by omega)
              have hid8 : decide (n ≤ i) = true := decide_eq_true (by omega)
              have HEI := Lib.hid ei
              clear hA7 hr7 hb7 hz7 ei HA6 HR6 HB6
              go_wp2_with fail
              go_roundw
              case rel => exact ⟨k + 1, by omega, by go_num, s6.e, HNX.out.1, HNX.out.2.1, HNX.out.2.2⟩
              case measure => simp [intOf]; omega
      · have HNX : Hid (Below w.heap.size w wo) := HBW.out
        by_cases h1 : k < n1
        · have h1' : (k : Int) < n1 := by omega
          have e1 : decide (k < n1) = true := decide_eq_true h1
          by_cases h2 : k < n2
          · have h2' : (k : Int) < n2 := by omega
            have e2 : decide (k < n2) = true := decide_eq_true h2
            by_cases h3 : k < n3
            · have h3' : (k : Int) < n3 := by omega
              have e3 : decide (k < n3) = true := decide_eq_true h3
              have h4 : ¬ k < n4 := fun h => hin ⟨h1, h2, h3, h⟩
              have e4 : decide (k < n4) = false := decide_eq_false h4
              clear hin
              go_wp2_with fail
              go_ret
              exact ⟨rfl, HNX.out⟩
            · have e3 : decide (k < n3) = false := decide_eq_false h3
              clear hin
              go_wp2_with fail
              go_ret
              exact ⟨rfl, HNX.out⟩
          · have e2 : decide (k < n2) = false := decide_eq_false h2
            clear hin
            go_wp2_with fail
            go_ret
            exact ⟨rfl, HNX.out⟩
        · have e1 : decide (k < n1) = false := decide_eq_false h1
          clear hin
          go_wp2_with fail
          go_ret
          exact ⟨rfl, HNX.out⟩
  · have hbad : Calls Try.prog 7 #[.int .i64 x, .slice A m cp, .int .i64 y] w1 fun e w' => e = .returned (.tuple #[.pointer none, errNo v]) ∧ Below w1.heap.size w1 w' := by
      rcases hf with hf | ⟨hg, hy, rfl⟩
      · exact lfiNew_bad x A m cp y a b c w1 (HL.out.keep HB1.out) hm v hv hf
      · obtain ⟨n, rfl, hn1, hn8, hr⟩ := good_nat hg
        exact lfiNew_range n n rfl A m cp y a b c w1 (HL.out.keep HB1.out) hm hg hy
    have HC := Lib.hid hbad
    clear hbad hf hv
    refine HC.out.mono ?_
    rintro e w2 ⟨rfl, hb2⟩
    have HB2 := Lib.hid (keep HB1.out hb2)
    clear hb2 HB1 HC
    go_wp2_with fail
    go_ret
    exact ⟨rfl, HB2.out⟩

end Go.Proofs.Ytlemmphnmklbeaa

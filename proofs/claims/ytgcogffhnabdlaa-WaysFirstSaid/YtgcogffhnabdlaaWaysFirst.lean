/- WaysFirst: the first way is as long as the other node is far; any way between both is no shorter, and of as short ones none stands ahead. For all arguments; no condition. -/
import Derived.Test.YtgcogffhnabdlaaGone
import Derived.Test.YtgcogffhnabdlaaWayLen
namespace Go.Proofs.Ytgcogffhnabdlaa
open Go.RowKit
set_option linter.unusedVariables false

set_option maxRecDepth 100000 in
set_option maxHeartbeats 4000000 in
theorem waysFirst_walk (x : Int) (A : Option Addr) (m cp : Nat) (a b c : Nat → Int) (z y : Int) (F : Option Addr) (k ck : Nat) (f : Nat → Int) (w : World) (hl : Lnk w A m a b c) (hm : m ≤ 9223372036854775807) (hf : Vec w F k f) (hk : k ≤ 140737488351232) :
    Calls Try.prog 3 #[.int .i64 x, .slice A m cp, .int .i64 z, .int .i64 y, .slice F k ck] w fun e w' => e = .returned (.bool true) ∧ Below w.heap.size w w' := by
  have HL := Lib.hid hl
  have HF := Lib.hid hf
  clear hl hf
  go_enter Try.func3, Try.ntmps3
  go_wp2_with fail
  refine (gone_walk w).mono ?_
  rintro e w1 ⟨rfl, hb1⟩
  have HB1 := Lib.hid hb1
  clear hb1
  go_wp2_with fail
  rcases badW_aux x z y m a b c with ⟨hg, hy, hz⟩ | ⟨v, -, hf⟩
  · obtain ⟨n, rfl, hn1, hn8, hr⟩ := good_nat hg
    obtain ⟨t, rfl⟩ : ∃ t : Nat, y = t := ⟨y.toNat, by omega⟩
    obtain ⟨s, rfl⟩ : ∃ s : Nat, z = s := ⟨z.toNat, by omega⟩
    have ht : t < n := by omega
    have hs : s < n := by omega
    have hn8' : (n : Int) ≤ 8 := by omega
    have HG := Lib.hid hg
    have HR := Lib.hid hr
    clear hg hr hy hz
    by_cases h16 : endF t a b c m s < 16
    · have hback := (far_end HR.out ht).back (cost_m HR.out) ht hs (far_end HR.out hs)
      have hcall := first_ok n s t n s t rfl rfl rfl A m cp a b c w1 (HL.out.keep HB1.out) hm HG.out hs ht h16
      refine hcall.mono ?_
      clear hcall
      rintro e w2 ⟨kp, vp, ⟨hkt, hkn⟩, hk16, rfl, hown, hb2⟩
      have hway := fst_way HR.out ht hs h16 hkn hkt
      have HEND := Lib.hid (fun r f => way_end HR.out ht hs h16 hkn hkt (r := r) (f := f))
      obtain ⟨Ap, cpp, rfl, hV⟩ := hown.vec
      obtain ⟨G, hG⟩ : ∃ G : Nat → Int, (fun j => ((fstF n t (costF m a b c) (endF t a b c m) s j : Nat) : Int)) = G := ⟨_, rfl⟩
      rw [hG] at hV hway
      have hG0 : G 0 = (s : Int) := by rw [← hG]; rfl
      have hGk : G kp = (t : Int) := by rw [← hG]; show ((fstF n t (costF m a b c) (endF t a b c m) s kp : Nat) : Int) = t; rw [hkt]
      simp only [hG] at HEND
      obtain ⟨l, hl⟩ : ∃ l, kp + 1 = l := ⟨_, rfl⟩
      rw [hl] at hV hway HEND ⊢
      have hl1 : (1 : Int) ≤ l := by omega
      have hl2 : (l : Int) ≤ 17 := by omega
      have hl0 : 0 < l := by omega
      have hp0 : (0 : Int) ≤ (l : Int) - 1 := by omega
      have hp1 : ((l : Int) - 1).toNat = kp := by omega
      have hp2 : (l : Int) - 1 < l := by omega
      have HV := Lib.hid hV
      have HWAY := Lib.hid hway
      have HBACK := Lib.hid hback
      have HB2 := Lib.hid (keep HB1.out hb2)
      have hkl : kp < l := by omega
      have HG0 := Lib.hid hG0
      have HGK := Lib.hid hGk
      clear hV hway hback hb2 HB1 hown hkt hkn hG hl hG0 hGk h16
      obtain ⟨pd, rfl, hpl, hpc⟩ := HV.out 0 hl0
      go_wp2_with fail
      have hcall := spfFar_ok n s n s rfl rfl A m cp a b c w2 (HL.out.keep HB2.out) hm HG.out hs
      refine hcall.mono ?_
      clear hcall
      rintro e w3 ⟨g, rfl, -, hrow, hb3⟩
      have hct := hrow.cell ht
      rw [← HBACK.out] at hct
      have HV3 := Lib.hid (HV.out.keep hb3)
      have HX := Lib.hid hrow
      have HB3 := Lib.hid (keep HB2.out hb3)
      clear hrow hb3 HB2 hpl hpc HV
      go_wp2_with fail
      have hcall := wayLength_ok n n rfl A m cp a b c (some pd) l cpp G w3 (HL.out.keep HB3.out) hm HG.out HV3.out (by omega)
      refine hcall.mono ?_
      clear hcall
      rintro e w4 ⟨h | h, hb4⟩
      · obtain ⟨-, rfl⟩ := h
        rw [HWAY.out.2]
        obtain ⟨d, hd⟩ : ∃ d, endF t a b c m s = d := ⟨_, rfl⟩
        rw [hd] at hct HEND ⊢
        have hct4 := (hb4.cell (p := ⟨g, t, none⟩) HX.out.lt).trans hct
        have HV4 := Lib.hid (HV3.out.keep hb4)
        obtain ⟨pd', e, hpl, hpc⟩ := HV4.out 0 hl0
        injection e with e
        subst e
        obtain ⟨pd', e, -, hpk⟩ := HV4.out kp hkl
        injection e with e
        subst e
        rw [HG0.out, Addr.add_zero'] at hpc
        rw [HGK.out] at hpk
        have HB4 := Lib.hid (keep HB3.out hb4)
        clear hb4 HB3 HV3 hct hd
        have ht' : (t : Int) < n := by omega
        go_wp2_with fail
        have hcall := wayLength_ok n n rfl A m cp a b c F k ck f w4 (HL.out.keep HB4.out) hm HG.out (HF.out.keep HB4.out) hk
        refine hcall.mono ?_
        clear hcall
        rintro e w5 ⟨h | h, hb5⟩
        · obtain ⟨hok, rfl⟩ := h
          obtain ⟨r, hkr⟩ : ∃ r, k = r + 1 := ⟨k - 1, by have := hok.1; omega⟩
          have hF5 := HF.out.keep (keep HB4.out hb5)
          obtain ⟨fd, rfl, -, hf0⟩ := hF5 0 (by omega)
          obtain ⟨fd', e, -, hfr⟩ := hF5 r (by omega)
          injection e with e
          subst e
          rw [Addr.add_zero'] at hf0
          have HV5 := Lib.hid (HV4.out.keep hb5)
          have HF5 := Lib.hid hF5
          have HB5 := Lib.hid (keep HB4.out hb5)
          have HOK := Lib.hid hok
          have HKR := Lib.hid hkr
          have hk1 : (1 : Int) ≤ k := by omega
          have hk0 : (0 : Int) ≤ (k : Int) - 1 := by omega
          have hk2 : ((k : Int) - 1).toNat = r := by omega
          have hk3 : (k : Int) - 1 < k := by omega
          have hk4 : (k : Int) ≤ 140737488351232 := by omega
          have hEND := fun e0 e1 => HEND.out r f (by rw [← hkr]; exact hok) e0 e1
          rw [← hkr] at hEND
          have HE := Lib.hid hEND
          clear hF5 hok hkr hEND hb5 HB4 HEND hct4 hpc hpk
          obtain ⟨yl, hyl⟩ : ∃ yl, wayLen m a b c f k = yl := ⟨_, rfl⟩
          rw [hyl] at HE ⊢
          clear hyl
          by_cases e0 : f 0 = s
          · rw [e0] at hf0
            by_cases e1 : f r = t
            · rw [e1] at hfr
              obtain ⟨hle, hcmp⟩ := HE.out e0 e1
              clear e0 e1
              by_cases heq : yl = d
              · subst heq
                have HC := Lib.hid (hcmp rfl)
                clear hcmp hle
                go_wp2_with fail
                have hcall := compared_walk (some pd) (some fd) l k cpp ck G f w5 HV5.out HF5.out (by omega) hk
                refine hcall.mono ?_
                clear hcall
                rintro e w6 ⟨q, rfl, hq, q6, rfl⟩
                have hq0 := HC.out q hq
                clear hq
                go_wp2_with fail
                go_ret
                exact ⟨rfl, below_drewN HB5.out _⟩
              · have h1 : decide (d < yl) = true := decide_eq_true (by omega)
                clear hcmp hle heq
                go_wp2_with fail
                go_ret
                exact ⟨rfl, HB5.out⟩
            · have g1 : (f r != (t : Int)) = true := bne_iff_ne.2 e1
              have g2 : (f r == (t : Int)) = false := beq_false_of_ne e1
              clear e0 e1
              go_wp2_with fail
              go_ret
              exact ⟨rfl, HB5.out⟩
          · have g1 : (f 0 != (s : Int)) = true := bne_iff_ne.2 e0
            have g2 : (f 0 == (s : Int)) = false := beq_false_of_ne e0
            clear e0
            go_wp2_with fail
            go_ret
            exact ⟨rfl, HB5.out⟩
        · obtain ⟨-, rfl⟩ := h
          have HB5 := Lib.hid (keep HB4.out hb5)
          clear hb5 HB4
          go_wp2_with fail
          go_ret
          exact ⟨rfl, HB5.out⟩
      · exact absurd HWAY.out.1 h.1
    · have hcall := first_none n s t n s t rfl rfl rfl A m cp a b c w1 (HL.out.keep HB1.out) hm HG.out hs ht h16
      refine hcall.mono ?_
      clear hcall
      rintro e w2 ⟨rfl, hb2⟩
      have HB2 := Lib.hid (keep HB1.out hb2)
      clear hb2 HB1 h16
      go_wp2_with fail
      go_ret
      exact ⟨rfl, HB2.out⟩
  · have hcall := first_bad x z y A m cp a b c w1 (HL.out.keep HB1.out) hm v hf
    refine hcall.mono ?_
    clear hcall
    rintro e w2 ⟨rfl, hb2⟩
    have HB2 := Lib.hid (keep HB1.out hb2)
    clear hb2 HB1 hf
    go_wp2_with fail
    go_ret
    exact ⟨rfl, HB2.out⟩

end Go.Proofs.Ytgcogffhnabdlaa

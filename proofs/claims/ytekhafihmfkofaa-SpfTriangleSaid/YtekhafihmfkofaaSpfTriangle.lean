/- SpfTriangle: no detour is shorter, and it is as far there as back. For all arguments; no condition. -/
import Derived.Test.YtekhafihmfkofaaNearest
namespace Go.Proofs.Ytekhafihmfkofaa
open Go.RowKit
set_option linter.unusedVariables false

set_option maxRecDepth 100000 in
set_option maxHeartbeats 4000000 in
theorem spfTriangle_walk (x : Int) (A : Option Addr) (m cp : Nat) (a b c : Nat → Int) (y z u : Int) (w : World) (hl : Lnk w A m a b c) (hm : m ≤ 9223372036854775807) :
    Calls Try.prog 4 #[.int .i64 x, .slice A m cp, .int .i64 y, .int .i64 z, .int .i64 u] w fun e w' => e = .returned (.bool true) ∧ Below w.heap.size w w' := by
  have HL := Lib.hid hl
  clear hl
  go_enter Try.func4, Try.ntmps4
  go_wp2_with fail
  refine (nearest_walk w).mono ?_
  rintro e w1 ⟨rfl, hb1⟩
  have HB1 := Lib.hid hb1
  clear hb1
  go_wp2_with fail
  rcases bellRun_bad_aux x y m a b c with ⟨hg, h0, h1⟩ | ⟨v, -, hf⟩
  · obtain ⟨n, rfl, hn1, hn8, hr⟩ := good_nat hg
    obtain ⟨s, rfl⟩ : ∃ s : Nat, y = s := ⟨y.toNat, by omega⟩
    have hs : s < n := by omega
    have hn8' : (n : Int) ≤ 8 := by omega
    have HG := Lib.hid hg
    have HR := Lib.hid hr
    clear hg hr h0 h1
    have hcall := spfFar_ok n s n s rfl rfl A m cp a b c w1 (HL.out.keep HB1.out) hm HG.out hs
    refine hcall.mono ?_
    clear hcall
    rintro e w2 ⟨g, rfl, -, hrow, hb2⟩
    have HX := Lib.hid hrow
    have HB2 := Lib.hid (keep HB1.out hb2)
    clear hrow hb2 HB1
    go_wp2_with fail
    by_cases hz : 0 ≤ z ∧ z < n
    · obtain ⟨t, rfl⟩ : ∃ t : Nat, z = t := ⟨z.toNat, by omega⟩
      have ht : t < n := by omega
      clear hz
      have hcall := spfFar_ok n t n t rfl rfl A m cp a b c w2 (HL.out.keep HB2.out) hm HG.out ht
      refine hcall.mono ?_
      clear hcall
      rintro e w3 ⟨g3, rfl, -, hrow, hb3⟩
      have HX3 := Lib.hid (HX.out.below hb3 HX.out.lt)
      have HY3 := Lib.hid hrow
      have HB3 := Lib.hid (keep HB2.out hb3)
      clear hrow hb3 HB2 HX
      by_cases hu : 0 ≤ u ∧ u < n
      · obtain ⟨q, rfl⟩ : ∃ q : Nat, u = q := ⟨u.toNat, by omega⟩
        have hq : q < n := by omega
        clear hu
        have hK := cost_m HR.out
        have hD := far_end HR.out hs
        have hE := far_end HR.out ht
        have xa := HX3.out.cell hs
        rw [hD.zero] at xa
        have xb := HX3.out.cell ht
        have xc := HX3.out.cell hq
        have ya := HY3.out.cell hs
        have yc := HY3.out.cell hq
        have e1 : endF t a b c m s = endF s a b c m t := hE.back hK ht hs hD
        rw [e1] at ya
        have e2 : endF s a b c m q ≤ endF s a b c m t + endF t a b c m q := hD.detour hK ht hE q hq
        have e3 := hD.low q hq
        have e4 := hD.high q hq
        have e5 := hD.low t ht
        have e6 := hD.high t ht
        have e7 := hE.low q hq
        have e8 := hE.high q hq
        have hs' : (s : Int) < n := by omega
        have ht' : (t : Int) < n := by omega
        have hq' : (q : Int) < n := by omega
        have hd1 : decide ((q : Int) < 0) = false := decide_eq_false (by omega)
        have hd2 : decide (n ≤ q) = false := decide_eq_false (by omega)
        by_cases hst : s = t
        · subst hst
          have hst : (s == s) = true := by simp
          rw [hD.zero] at e2 e5 e6 ya xb
          generalize endF s a b c m q = Q at *
          clear hK hD hE e1 e2 e5 e6
          have hw : IntKind.i64.wrap Q = Q := IntWalk.i64_in _ (by omega)
          go_wp2_with fail
          go_quiet (fail)
          go_wp2_with fail
          go_ret
          exact ⟨rfl, below_drewN HB3.out _⟩
        · have hst : (s == t) = false := by simp [hst]
          have hpos := hD.pos hK ht (fun e => by subst e; simp at hst)
          have hst2 : ((s : Int) == (t : Int)) = false := beq_false_of_ne (fun e => by simp at hst; omega)
          have hst3 : decide (s = t) = false := decide_eq_false (by simpa using hst)
          generalize endF s a b c m t = P at *
          generalize endF s a b c m q = Q at *
          generalize endF t a b c m q = R at *
          clear hK hD hE e1
          go_wp2_with fail
          have hw : IntKind.i64.wrap (P + R) = P + R := IntWalk.i64_in _ (by omega)
          have hz1 : 0 < P := by omega
          go_quiet (fail)
          go_wp2_with fail
          go_ret
          exact ⟨rfl, below_drewN HB3.out _⟩
      · rcases (show u < 0 ∨ (0 ≤ u ∧ (n : Int) ≤ u) by omega) with hu | ⟨hu0, hu1⟩
        · go_wp2_with fail
          go_ret
          exact ⟨rfl, HB3.out⟩
        · have hd1 : decide (u < 0) = false := decide_eq_false (by omega)
          go_wp2_with fail
          go_ret
          exact ⟨rfl, HB3.out⟩
    · refine (spfFar_bad n z A m cp a b c w2 (HL.out.keep HB2.out) hm 1 (.inr ⟨HG.out, by omega, rfl⟩)).mono ?_
      rintro e w3 ⟨rfl, hb3⟩
      have HB3 := Lib.hid (keep HB2.out hb3)
      clear hb3 HB2
      go_wp2_with fail
      go_ret
      exact ⟨rfl, HB3.out⟩
  · have HFR := Lib.hid hf
    clear hf
    refine (spfFar_bad x y A m cp a b c w1 (HL.out.keep HB1.out) hm v HFR.out).mono ?_
    rintro e w2 ⟨rfl, hb2⟩
    have HB2 := Lib.hid (keep HB1.out hb2)
    clear hb2 HB1
    go_wp2_with fail
    rcases bellRun_bad_aux x z m a b c with ⟨hg, h0, h1⟩ | ⟨v2, -, hf2⟩
    · obtain ⟨n, rfl, hn1, hn8, hr⟩ := good_nat hg
      obtain ⟨t, rfl⟩ : ∃ t : Nat, z = t := ⟨z.toNat, by omega⟩
      have hcall := spfFar_ok n t n t rfl rfl A m cp a b c w2 (HL.out.keep HB2.out) hm hg (by omega)
      have HC := Lib.hid hcall
      clear hcall hg hr
      refine HC.out.mono ?_
      rintro e w3 ⟨g3, rfl, -, -, hb3⟩
      have HB3 := Lib.hid (keep HB2.out hb3)
      clear hb3 HB2
      go_wp2_with fail
      go_ret
      exact ⟨rfl, HB3.out⟩
    · have HF2 := Lib.hid hf2
      clear hf2
      refine (spfFar_bad x z A m cp a b c w2 (HL.out.keep HB2.out) hm v2 HF2.out).mono ?_
      rintro e w3 ⟨rfl, hb3⟩
      have HB3 := Lib.hid (keep HB2.out hb3)
      clear hb3 HB2
      go_wp2_with fail
      go_ret
      exact ⟨rfl, HB3.out⟩

end Go.Proofs.Ytekhafihmfkofaa

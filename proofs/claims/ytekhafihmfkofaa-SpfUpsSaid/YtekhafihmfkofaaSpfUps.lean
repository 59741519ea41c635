/- SpfUps: whoever is told leads on, nearer by the link's cost; whoever can be reached has one. For all arguments; no condition. -/
import Derived.Test.YtekhafihmfkofaaNearest
import Derived.Test.YtekhafihmfkofaaUps
import Derived.Test.YtekhafihmfkofaaCost
namespace Go.Proofs.Ytekhafihmfkofaa
open Go.RowKit
set_option linter.unusedVariables false

section
variable {n t : Nat} {K : Nat → Nat → Int} {D : Nat → Int}
theorem ups_at (hK : CostM n K) (hD : FarD n t K D) {i k : Nat} (hi : i < n) (hk : k < (upsL n t K D i).length) :
    ∃ p : Nat, p < n ∧ p ≠ i ∧ i ≠ t ∧ D i < 16 ∧ atL (upsL n t K D i) k = p ∧ D p + K p i = D i := by
  have hm : atL (upsL n t K D i) k ∈ upsL n t K D i := atL_mem.1 ⟨k, hk, rfl⟩
  obtain ⟨p, hp⟩ : ∃ p : Nat, atL (upsL n t K D i) k = p := by
    have h := hm
    unfold upsL pickL at h
    rw [List.mem_map] at h
    obtain ⟨p, -, e⟩ := h
    exact ⟨p, e.symm⟩
  rw [hp] at hm
  obtain ⟨h1, h2⟩ := pickL_mem.1 hm
  have h3 : i ≠ t ∧ p ≠ i ∧ D i < 16 ∧ D p + K p i = D i := of_decide_eq_true h2
  exact ⟨p, h1, h3.2.1, h3.1, h3.2.2.1, hp, h3.2.2.2⟩
theorem ups_some (hK : CostM n K) (hD : FarD n t K D) {i : Nat} (hi : i < n) (h1 : i ≠ t) (h2 : D i < 16) : 0 < (upsL n t K D i).length := by
  obtain ⟨k, hk, hne, h16, he⟩ := hD.att i hi h1 h2
  have hm : (k : Int) ∈ upsL n t K D i := pickL_mem.2 ⟨hk, by
    unfold upB
    rw [hK.back i k hi hk] at he
    exact decide_eq_true ⟨h1, hne, h2, by omega⟩⟩
  exact List.length_pos_of_mem hm
theorem ups_none (hK : CostM n K) (hD : FarD n t K D) {i : Nat} (hi : i < n) (h : i = t ∨ ¬ D i < 16) : (upsL n t K D i).length = 0 := by
  rcases Nat.eq_zero_or_pos (upsL n t K D i).length with h0 | h0
  · exact h0
  · obtain ⟨p, -, -, h3, h4, -⟩ := ups_at hK hD hi h0
    exact absurd h (by rintro (h | h); exact h3 h; exact h h4)
end

set_option maxRecDepth 100000 in
set_option maxHeartbeats 4000000 in
theorem spfUps_walk (x : Int) (A : Option Addr) (m cp : Nat) (a b c : Nat → Int) (y z : Int) (w : World) (hl : Lnk w A m a b c) (hm : m ≤ 9223372036854775807) :
    Calls Try.prog 5 #[.int .i64 x, .slice A m cp, .int .i64 y, .int .i64 z] w fun e w' => e = .returned (.bool true) ∧ Below w.heap.size w w' := by
  have HL := Lib.hid hl
  clear hl
  go_enter Try.func5, Try.ntmps5
  go_wp2_with fail
  refine (nearest_walk w).mono ?_
  rintro e w1 ⟨rfl, hb1⟩
  have HB1 := Lib.hid hb1
  clear hb1
  go_wp2_with fail
  rcases bellRun_bad_aux x y m a b c with ⟨hg, h0, h1⟩ | ⟨v, -, hf⟩
  · obtain ⟨n, rfl, hn1, hn8, hr⟩ := good_nat hg
    obtain ⟨t, rfl⟩ : ∃ t : Nat, y = t := ⟨y.toNat, by omega⟩
    have ht : t < n := by omega
    have hn8' : (n : Int) ≤ 8 := by omega
    have HG := Lib.hid hg
    have HR := Lib.hid hr
    clear hg hr h0 h1
    have hcall := spfUps_ok n t n t rfl rfl A m cp a b c w1 (HL.out.keep HB1.out) hm HG.out ht
    refine hcall.mono ?_
    clear hcall
    rintro e w2 ⟨vu, rfl, hrag, hb2⟩
    have HT := Lib.hid hrag
    have HB2 := Lib.hid (keep HB1.out hb2)
    clear hrag hb2 HB1
    go_wp2_with fail
    have hcall := spfFar_ok n t n t rfl rfl A m cp a b c w2 (HL.out.keep HB2.out) hm HG.out ht
    refine hcall.mono ?_
    clear hcall
    rintro e w3 ⟨g, rfl, -, hrow, hb3⟩
    have HX := Lib.hid hrow
    have HT3 := Lib.hid (HT.out.below hb3)
    have HB3 := Lib.hid (keep HB2.out hb3)
    clear hrow hb3 HB2 HT
    by_cases hz : 0 ≤ z ∧ z < n
    · obtain ⟨i, rfl⟩ : ∃ i : Nat, z = i := ⟨z.toNat, by omega⟩
      have hi : i < n := by omega
      clear hz
      have hi' : (i : Int) < n := by omega
      have hd1 : decide ((i : Int) < 0) = false := decide_eq_false (by omega)
      have hd2 : decide (n ≤ i) = false := decide_eq_false (by omega)
      obtain ⟨Au, cu, rfl, hmat⟩ := HT3.out.mat
      obtain ⟨ad, Ai, ci, rfl, hal, hac, hav⟩ := hmat i hi
      replace hac : w3.cell? (ad.add i) = some (.slice Ai (upsL n t (costF m a b c) (endF t a b c m) i).length ci) := hac
      replace hav : Vec w3 Ai (upsL n t (costF m a b c) (endF t a b c m) i).length (atL (upsL n t (costF m a b c) (endF t a b c m) i)) := hav
      have HV := Lib.hid hav
      have HU := Lib.hid (fun k hk => ups_at (cost_m HR.out) (far_end HR.out ht) (k := k) hi hk)
      have HS := Lib.hid (fun h1 h2 => ups_some (cost_m HR.out) (far_end HR.out ht) hi h1 h2)
      have HN := Lib.hid (fun h => ups_none (cost_m HR.out) (far_end HR.out ht) hi h)
      have hll : (upsL n t (costF m a b c) (endF t a b c m) i).length ≤ n := pickL_len _ _
      clear hmat hav HT3
      generalize (upsL n t (costF m a b c) (endF t a b c m) i).length = l at *
      generalize atL (upsL n t (costF m a b c) (endF t a b c m) i) = F at *
      have hll' : (l : Int) ≤ 8 := by omega
      go_wp2_with fail
      go_loopw [14] (fun v wr => ∃ k : Nat, k ≤ l ∧ v = .int .i64 k ∧ ∃ q, wr = w3.drewN q) (fun v _ => l - (intOf v).toNat)
      case atStart => exact ⟨0, by omega, rfl, 0, rfl⟩
      case round =>
        obtain ⟨k, hk, rfl, q0, rfl⟩ := hrel
        by_cases hkl : k < l
        · have hkl' : (k : Int) < l := by omega
          obtain ⟨p, hp, hpi, hit, h16, hF, hsum⟩ := HU.out k hkl
          obtain ⟨ad2, rfl, hal2, hac2⟩ := HV.out k hkl
          have hF' : F k = (p : Int) := hF
          rw [hF'] at hac2
          have hp' : (p : Int) < n := by omega
          have cp0 := HX.out.cell hp
          have ci0 := HX.out.cell hi
          obtain ⟨hk0, hk1⟩ := end_ranged (t := t) HR.out p hp
          have hc1 := (cost_m HR.out).low p i hp hi hpi
          obtain ⟨cc, hcc⟩ : ∃ cc, costF m a b c p i = cc := ⟨_, rfl⟩
          obtain ⟨dp, hdp⟩ : ∃ dp, endF t a b c m p = dp := ⟨_, rfl⟩
          rw [hdp] at cp0 hk0 hk1 hsum
          rw [hcc] at hc1 hsum
          rw [← hsum] at ci0 h16
          have HCC : Hid (costV m a b c p i = cc) := hcc
          clear hcc hdp hF hF' hsum
          have g0 : (cc == 0) = false := beq_false_of_ne (by omega)
          have g1 : (cc == 16) = false := beq_false_of_ne (by omega)
          have hw : IntKind.i64.wrap (dp + cc) = dp + cc := IntWalk.i64_in _ (by omega)
          have hin : (i : Int) ≠ t := by omega
          clear hpi hit
          go_wp2_with fail
          have hcall := costOf_walk A m cp a b c p i (w3.drewN q0) ((HL.out.keep HB3.out).drewN q0) hm cc HCC.out
          refine hcall.mono ?_
          clear hcall
          rintro e w4 ⟨rfl, h4⟩
          subst w4
          go_wp2_with fail
          go_quiet (fail)
          go_wp2_with fail
          go_roundw
          case rel => exact ⟨k + 1, by omega, by go_num, _, rfl⟩
          case measure => simp [intOf]; omega
        · have ek : k = l := by omega
          subst ek
          have ci0 := HX.out.cell hi
          by_cases hit : i = t
          · have e2 : ((i : Int) == (t : Int)) = true := by simp [hit]
            have e1 : (i == t) = true := by simp [hit]
            have e3 : ((i : Int) != (t : Int)) = false := by simp [hit]
            have e4 : (i != t) = false := by simp [hit]
            have hl0 := HN.out (.inl hit)
            subst hl0
            clear hit
            go_wp2_with fail
            go_quiet (fail)
            go_wp2_with fail
            go_ret
            exact ⟨rfl, below_drewN (below_drewN HB3.out _) _⟩
          · have e2 : ((i : Int) == (t : Int)) = false := beq_false_of_ne (by omega)
            have e1 : (i == t) = false := beq_false_of_ne hit
            have e3 : ((i : Int) != (t : Int)) = true := bne_iff_ne.2 (by omega)
            have e4 : (i != t) = true := bne_iff_ne.2 hit
            by_cases h16 : endF t a b c m i < 16
            · have hl0 := HS.out hit h16
              have hl1 : (0 : Int) < k := by omega
              clear hit
              go_wp2_with fail
              go_quiet (fail)
              go_wp2_with fail
              go_ret
              exact ⟨rfl, below_drewN (below_drewN HB3.out _) _⟩
            · have hl0 := HN.out (.inr (by omega))
              subst hl0
              have g1 : decide (endF t a b c m i < 16) = false := decide_eq_false h16
              clear hit h16
              go_wp2_with fail
              go_quiet (fail)
              go_wp2_with fail
              go_ret
              exact ⟨rfl, below_drewN (below_drewN HB3.out _) _⟩
    · rcases (show z < 0 ∨ (0 ≤ z ∧ (n : Int) ≤ z) by omega) with hu | ⟨hu0, hu1⟩
      · go_wp2_with fail
        go_quiet (fail)
        go_wp2_with fail
        go_ret
        exact ⟨rfl, below_drewN HB3.out _⟩
      · have hd1 : decide (z < 0) = false := decide_eq_false (by omega)
        go_wp2_with fail
        go_quiet (fail)
        go_wp2_with fail
        go_ret
        exact ⟨rfl, below_drewN HB3.out _⟩
  · have HFR := Lib.hid hf
    clear hf
    refine (spfUps_bad x y A m cp a b c w1 (HL.out.keep HB1.out) hm v HFR.out).mono ?_
    rintro e w2 ⟨rfl, hb2⟩
    have HB2 := Lib.hid (keep HB1.out hb2)
    clear hb2 HB1
    go_wp2_with fail
    refine (spfFar_bad x y A m cp a b c w2 (HL.out.keep HB2.out) hm v HFR.out).mono ?_
    rintro e w3 ⟨rfl, hb3⟩
    have HB3 := Lib.hid (keep HB2.out hb3)
    clear hb3 HB2
    go_wp2_with fail
    go_quiet (fail)
    go_wp2_with fail
    go_ret
    exact ⟨rfl, below_drewN HB3.out _⟩

end Go.Proofs.Ytekhafihmfkofaa

/- TopCut: a link less is never nearer; who goes by it alone is farther, or no more there. For all arguments; no condition. -/
import Derived.Test.YtekhafihmfkofaaUpsLaw
import Derived.Test.YtekhafihmfkofaaBellFixed
import Derived.Test.YtekhafihmfkofaaOwnLk
import Derived.Test.YtekhafihmfkofaaPlain
import Derived.Deep.RegionHeld3
namespace Go.Proofs.Ytekhafihmfkofaa
open Go.RowKit
set_option linter.unusedVariables false

section
variable {n m j t : Nat} {a b c : Nat → Int}
theorem cut_costs (hr : Right n m a b c) (hj : j < m) (i k : Nat) : costF m a b c i k ≤ costF (m - 1) (dropF j a) (dropF j b) (dropF j c) i k := by
  rw [costF_drop hr hj i k]
  by_cases h : (i = nA a j ∧ k = nA b j) ∨ (i = nA b j ∧ k = nA a j)
  · rw [if_pos h]; exact (costV_ranged hr i k).2
  · rw [if_neg h]; exact Int.le_refl _

/-- None is nearer with one link less. -/
theorem cut_farther (hr : Right n m a b c) (hj : j < m) (ht : t < n) {i : Nat} (hi : i < n) : endF t a b c m i ≤ endF t (dropF j a) (dropF j b) (dropF j c) (m - 1) i := by
  have hD := far_end hr ht
  have hD' := far_end (right_drop hr hj) ht
  refine hD'.most (cost_m (right_drop hr hj)) (Int.le_of_eq hD.zero) hD.high (fun i k hi hk _ _ => ?_) i hi
  have h1 := hD.tri i k hi hk
  have h2 := cut_costs hr hj i k
  omega

/-- Who goes by it alone is farther. -/
theorem cut_alone (hr : Right n m a b c) (hj : j < m) (ht : t < n) {i p : Nat} (hi : i < n) (hne : i ≠ t) (h16 : endF t a b c m i < 16)
    (honly : upsL n t (costF m a b c) (endF t a b c m) i = [(p : Int)]) (hp : (i = nA a j ∧ p = nA b j) ∨ (i = nA b j ∧ p = nA a j)) :
    endF t a b c m i < endF t (dropF j a) (dropF j b) (dropF j c) (m - 1) i := by
  have hD := far_end hr ht
  have hD' := far_end (right_drop hr hj) ht
  have hK := cost_m hr
  rcases Int.lt_or_le (endF t a b c m i) (endF t (dropF j a) (dropF j b) (dropF j c) (m - 1) i) with h | h
  · exact h
  · have he := Int.le_antisymm h (cut_farther hr hj ht hi)
    obtain ⟨k, hk, hki, hk16, hk'⟩ := hD'.att i hi hne (by omega)
    have hcut : ¬ ((i = nA a j ∧ k = nA b j) ∨ (i = nA b j ∧ k = nA a j)) := by
      intro hc
      rw [costF_drop hr hj i k, if_pos hc] at hk16
      omega
    have hKe : costF (m - 1) (dropF j a) (dropF j b) (dropF j c) i k = costF m a b c i k := by rw [costF_drop hr hj i k, if_neg hcut]
    have h1 := cut_farther hr hj ht hk
    have h2 := hD.tri i k hi hk
    have hb := hK.back i k hi hk
    have hm : (k : Int) ∈ upsL n t (costF m a b c) (endF t a b c m) i := pickL_mem.2 ⟨hk, by
      unfold upB
      exact decide_eq_true ⟨hne, hki, h16, by omega⟩⟩
    rw [honly] at hm
    have hkp : k = p := by
      have := List.mem_singleton.1 hm
      omega
    subst hkp
    exact absurd hp hcut
end

theorem one_list {l : List Int} (h : l.length = 1) : l = [atL l 0] := by
  match l, h with
  | [x], _ => rfl

theorem nat_ne {p q : Nat} (h : p ≠ q) : (p == q) = false ∧ ((p : Int) == (q : Int)) = false := ⟨beq_false_of_ne h, beq_false_of_ne (by omega)⟩

set_option maxRecDepth 100000 in
set_option maxHeartbeats 32000000 in
theorem topCut_walk (x : Int) (A : Option Addr) (m cp : Nat) (a b c : Nat → Int) (z y u : Int) (w : World) (hl : Lnk w A m a b c) (hm : m ≤ 9223372036854775807) :
    Calls Try.prog 3 #[.int .i64 x, .slice A m cp, .int .i64 z, .int .i64 y, .int .i64 u] w fun e w' => e = .returned (.bool true) ∧ Below w.heap.size w w' := by
  have HL := Lib.hid hl
  clear hl
  go_enter Try.func3, Try.ntmps3
  go_wp2_with fail
  rcases bellRun_bad_aux x y m a b c with ⟨hg, h0, h1⟩ | ⟨v, -, hf⟩
  · obtain ⟨n, rfl, hn1, hn8, hr⟩ := good_nat hg
    obtain ⟨t, rfl⟩ : ∃ t : Nat, y = t := ⟨y.toNat, by omega⟩
    have ht : t < n := by omega
    have hn8' : (n : Int) ≤ 8 := by omega
    have HG := Lib.hid hg
    have HR := Lib.hid hr
    clear hg hr h0 h1
    have hcall := spfFar_ok n t n t rfl rfl A m cp a b c w HL.out hm HG.out ht
    refine hcall.mono ?_
    clear hcall
    rintro e w1 ⟨g, rfl, -, hrow, hb1⟩
    have HX := Lib.hid hrow
    have HB1 := Lib.hid hb1
    clear hrow hb1
    go_wp2_with fail
    have hcall := spfFar_ok 2 0 2 0 rfl rfl (some ⟨w1.heap.size, 0, none⟩) 1 1 (fun _ => 0) (fun _ => 1) (fun _ => 3) _ (lnk_lit w1) (by omega) good_lit (by omega)
    refine hcall.mono ?_
    clear hcall
    rintro e w2 ⟨g2, rfl, hg, hrow2, hb2⟩
    have hb12 : Below w1.heap.size w1 w2 := keepAlloc (Below.refl _ _) hb2
    have HX2 := Lib.hid (HX.out.below hb12 HX.out.lt)
    have HB2 := Lib.hid (keep HB1.out hb12)
    have cf1 := hrow2.cell (i := 1) (by omega)
    rw [← end_lit 1 (by omega)] at cf1
    replace cf1 : w2.cell? ⟨g2, 1, none⟩ = some (.int .i64 3) := cf1
    clear hg hrow2 hb2 hb12 HB1 HX
    by_cases hin : 0 ≤ z ∧ z < m ∧ 0 ≤ u ∧ u < n
    · obtain ⟨j, rfl⟩ : ∃ j : Nat, z = j := ⟨z.toNat, by omega⟩
      obtain ⟨q, rfl⟩ : ∃ q : Nat, u = q := ⟨u.toNat, by omega⟩
      have hj : j < m := by omega
      have hq : q < n := by omega
      clear hin
      have hj' : (j : Int) < m := by omega
      have hq' : (q : Int) < n := by omega
      have hd1 : decide ((j : Int) < 0) = false := decide_eq_false (by omega)
      have hd2 : decide (m ≤ j) = false := decide_eq_false (by omega)
      have hd3 : decide ((q : Int) < 0) = false := decide_eq_false (by omega)
      have hd4 : decide (n ≤ q) = false := decide_eq_false (by omega)
      obtain ⟨hpn, hsn, hps, hk0, hk1, ea, eb⟩ := right_nat HR.out hj
      obtain ⟨ad, rfl, hc0, hc1, hc2⟩ := HL.out.cells HB2.out j hj
      obtain ⟨P, hP⟩ : ∃ P, nA a j = P := ⟨_, rfl⟩
      obtain ⟨Q, hQ⟩ : ∃ Q, nA b j = Q := ⟨_, rfl⟩
      have HP := Lib.hid hP
      have HQ := Lib.hid hQ
      have hmt : Mt a b j P Q := .inl ⟨by rw [ea, hP], by rw [eb, hQ]⟩
      have HMT := Lib.hid hmt
      rw [ea, hP] at hc0
      rw [eb, hQ] at hc1
      rw [hP] at hpn hps
      rw [hQ] at hsn hps
      clear ea eb hP hQ hmt
      have hal : ad.block < w.heap.size := by
        obtain ⟨ad', e, hlt, -⟩ := HL.out j hj
        injection e with e
        subst e
        exact hlt
      have HC := Lib.hid (show (w2.drew.cell? (ad.add (j * 3)) = some (.int .i64 P)) ∧ (w2.drew.cell? ⟨(ad.add (j * 3)).block, (ad.add (j * 3)).off + 1, none⟩ = some (.int .i64 Q)) from ⟨hc0, hc1⟩)
      have HAL : Hid ((ad.add (j * 3)).block < w2.heap.size) := by
        rw [block_of_add]
        exact Nat.lt_of_lt_of_le hal HB2.out.size
      have HKP : Hid (∀ w4, Below w2.heap.size w2.drew w4 → (w4.cell? (ad.add (j * 3)) = some (.int .i64 P)) ∧ (w4.cell? ⟨(ad.add (j * 3)).block, (ad.add (j * 3)).off + 1, none⟩ = some (.int .i64 Q))) := fun w4 hb => ⟨(hb.cell HAL.out).trans HC.out.1, (hb.cell (p := ⟨(ad.add (j * 3)).block, (ad.add (j * 3)).off + 1, none⟩) HAL.out).trans HC.out.2⟩
      clear hal hc2
      go_wp2_with fail
      go_region_held3 (fun w' => w'.cell? (ad.add (j * 3)) = some (.int .i64 P) ∧ w'.cell? ⟨(ad.add (j * 3)).block, (ad.add (j * 3)).off + 1, none⟩ = some (.int .i64 Q))
        (first | exact HC.out | exact HKP.out _ hb4 | go_keep)
        (first | (go_at_call 10; refine (cut_ok n P Q (some ad) m cp j a b c _ (HL.out.keep HB2.out.drew) hm HG.out hj HMT.out).mono ?_; rintro e w4 ⟨g4, cap4, rfl, hg4, hrow4, hb4⟩))
      all_goals
        have hb24 : Below w2.heap.size w2 w4 := ((Below.refl w2.heap.size w2).drew).trans hb4
        have HB4 := Lib.hid (keep HB2.out hb24)
        have HX4 := Lib.hid (HX2.out.below hb24 HX2.out.lt)
        have HL4 := Lib.hid hrow4.lnk
        have HS4 := Lib.hid (HKP.out _ hb4)
        have HS4L : Hid ((ad.add (j * 3)).block < w4.heap.size) := Nat.lt_of_lt_of_le HAL.out hb24.size
        have HGD : Hid (GoodG n (m - 1) (dropF j a) (dropF j b) (dropF j c)) := ⟨HG.out.1, HG.out.2.1, by simpa using right_drop HR.out hj⟩
        clear hb24 hb4 hrow4 HX2 HB2 hc0 hc1 HC HAL HKP cf1
        go_wp2_with fail
        have hcall := spfFar_ok n t n t rfl rfl (some ⟨g4, 0, none⟩) (m - 1) cap4 (dropF j a) (dropF j b) (dropF j c) w4 HL4.out (Nat.le_trans (Nat.sub_le _ _) hm) HGD.out ht
        refine hcall.mono ?_
        clear hcall
        rintro e w5 ⟨g5, rfl, -, hrow5, hb5⟩
        have HY5 := Lib.hid hrow5
        have HX5 := Lib.hid (HX4.out.below hb5 HX4.out.lt)
        have HB5 := Lib.hid (keep HB4.out hb5)
        have HB45 := Lib.hid hb5
        clear hrow5 hb5 HX4 HB4 HL4
        have hfar := cut_farther HR.out hj ht hq
        have cy := HY5.out.cell hq
        have cx := HX5.out.cell hq
        have HA := Lib.hid (fun p h1 h2 h3 h4 => cut_alone (p := p) HR.out hj ht hq h1 h2 h3 h4)
        rw [HP.out, HQ.out] at HA
        obtain ⟨FF, hFF⟩ : ∃ FF, endF t (dropF j a) (dropF j b) (dropF j c) (m - 1) q = FF := ⟨_, rfl⟩
        obtain ⟨DD, hDD⟩ : ∃ DD, endF t a b c m q = DD := ⟨_, rfl⟩
        have HFF := Lib.hid hFF
        have HDD := Lib.hid hDD
        rw [hFF] at cy hfar
        rw [hDD] at cx hfar
        rw [hFF, hDD] at HA
        clear hFF hDD
        have hd5 : decide (FF < DD) = false := decide_eq_false (by omega)
        go_wp2_with fail
        go_quiet (fail)
        go_wp2_with fail
        have HY6 := Lib.hid (HY5.out.drewN nq)
        have HX6 := Lib.hid (HX5.out.drewN nq)
        have HB6 := Lib.hid (below_drewN HB5.out nq)
        have HS5 : Hid (Below w4.heap.size w4 (w5.drewN nq)) := below_drewN HB45.out nq
        obtain ⟨w6, hw6⟩ : ∃ w6, w5.drewN nq = w6 := ⟨_, rfl⟩
        rw [hw6] at HY6 HX6 HB6 HS5 ⊢
        clear hw6 cy cx hd5 HX5 HY5 HB5 HB45
        have hcall := spfUps_ok n t n t rfl rfl (some ad) m cp a b c w6 (HL.out.keep HB6.out) hm HG.out ht
        refine hcall.mono ?_
        clear hcall
        rintro e w7 ⟨vu, rfl, hrag, hb7⟩
        have cy := (HY6.out.below hb7 HY6.out.lt).cell hq
        have cx := (HX6.out.below hb7 HX6.out.lt).cell hq
        rw [HFF.out] at cy
        rw [HDD.out] at cx
        have HB7 := Lib.hid (keep HB6.out hb7)
        have hb47 : Below w4.heap.size w4 w7 := keep HS5.out hb7
        have c0 := (hb47.cell (p := ad.add (j * 3)) HS4L.out).trans HS4.out.1
        have c1 := (hb47.cell (p := ⟨(ad.add (j * 3)).block, (ad.add (j * 3)).off + 1, none⟩) HS4L.out).trans HS4.out.2
        obtain ⟨Au, cu, rfl, hmat⟩ := hrag.mat
        obtain ⟨au, Ai, ci, rfl, -, hac, hav⟩ := hmat q hq
        replace hac : w7.cell? (au.add q) = some (.slice Ai (upsL n t (costF m a b c) (endF t a b c m) q).length ci) := hac
        replace hav : Vec w7 Ai (upsL n t (costF m a b c) (endF t a b c m) q).length (atL (upsL n t (costF m a b c) (endF t a b c m) q)) := hav
        have HU := Lib.hid (fun h => ups_at (cost_m HR.out) (far_end HR.out ht) (k := 0) hq h)
        clear hrag hmat hb7 hb47 HY6 HX6 HB6 HS5 HS4 HS4L HL HFF HDD
        obtain ⟨hQ1, hQ2⟩ : (P == Q) = false ∧ ((P : Int) == (Q : Int)) = false := nat_ne hps
        by_cases hqt : t = q
        · subst hqt
          clear hav HU HA hac
          go_wp2_with fail
          simp only [List.append_eq, List.cons_append, List.nil_append]
          go_quiet (fail)
          go_wp2_with fail
          go_quiet (fail)
          go_wp2_with fail
          go_ret
          exact ⟨rfl, below_drewN (below_drewN HB7.out _) _⟩
        · have e1 : (t == q) = false := beq_false_of_ne hqt
          have e2 : ((t : Int) == (q : Int)) = false := beq_false_of_ne (by omega)
          have e3 : ((t : Int) != (q : Int)) = true := bne_iff_ne.2 (by omega)
          have e4 : (t != q) = true := bne_iff_ne.2 hqt
          by_cases h16 : DD < 16
          · by_cases hL : (upsL n t (costF m a b c) (endF t a b c m) q).length = 1
            · obtain ⟨p, hp, -, -, -, hF, -⟩ := HU.out (by rw [hL]; omega)
              obtain ⟨ap, rfl, -, hcp⟩ := hav 0 (by rw [hL]; omega)
              rw [hF, show ap.add 0 = ap by unfold Addr.add; simp] at hcp
              have honly := one_list hL
              rw [hF] at honly
              have HAL := Lib.hid (fun h4 => HA.out p (fun e => hqt e.symm) h16 honly h4)
              rw [hL] at hac
              clear hL hav HU HA hqt hF honly
              by_cases h1 : p = P
              · subst h1
                by_cases h2 : q = Q
                · subst h2
                  have hlt : DD < FF := HAL.out (.inr ⟨rfl, rfl⟩)
                  clear HAL
                  go_wp2_with fail
                  simp only [List.append_eq, List.cons_append, List.nil_append]
                  go_quiet (fail)
                  go_wp2_with fail
                  go_quiet (fail)
                  go_wp2_with fail
                  go_ret
                  exact ⟨rfl, below_drewN (below_drewN HB7.out _) _⟩
                · obtain ⟨f1, f2⟩ := nat_ne h2
                  clear HAL h2
                  go_wp2_with fail
                  simp only [List.append_eq, List.cons_append, List.nil_append]
                  go_quiet (fail)
                  go_wp2_with fail
                  go_quiet (fail)
                  go_wp2_with fail
                  go_ret
                  exact ⟨rfl, below_drewN (below_drewN HB7.out _) _⟩
              · obtain ⟨f1, f2⟩ := nat_ne h1
                by_cases h2 : p = Q
                · subst h2
                  by_cases h3 : q = P
                  · subst h3
                    have hlt : DD < FF := HAL.out (.inl ⟨rfl, rfl⟩)
                    clear HAL h1
                    go_wp2_with fail
                    simp only [List.append_eq, List.cons_append, List.nil_append]
                    go_quiet (fail)
                    go_wp2_with fail
                    go_quiet (fail)
                    go_wp2_with fail
                    go_ret
                    exact ⟨rfl, below_drewN (below_drewN HB7.out _) _⟩
                  · obtain ⟨f3, f4⟩ := nat_ne h3
                    clear HAL h1 h3
                    go_wp2_with fail
                    simp only [List.append_eq, List.cons_append, List.nil_append]
                    go_quiet (fail)
                    go_wp2_with fail
                    go_quiet (fail)
                    go_wp2_with fail
                    go_ret
                    exact ⟨rfl, below_drewN (below_drewN HB7.out _) _⟩
                · obtain ⟨f3, f4⟩ := nat_ne h2
                  clear HAL h1 h2
                  go_wp2_with fail
                  simp only [List.append_eq, List.cons_append, List.nil_append]
                  go_quiet (fail)
                  go_wp2_with fail
                  go_quiet (fail)
                  go_wp2_with fail
                  go_ret
                  exact ⟨rfl, below_drewN (below_drewN HB7.out _) _⟩
            · have f1 : ((upsL n t (costF m a b c) (endF t a b c m) q).length == 1) = false := beq_false_of_ne hL
              have f2 : (((upsL n t (costF m a b c) (endF t a b c m) q).length : Int) == 1) = false := beq_false_of_ne (by omega)
              clear hL hav HU HA hqt
              go_wp2_with fail
              simp only [List.append_eq, List.cons_append, List.nil_append]
              go_quiet (fail)
              go_wp2_with fail
              go_quiet (fail)
              go_wp2_with fail
              go_ret
              exact ⟨rfl, below_drewN (below_drewN HB7.out _) _⟩
          · have g1 : decide (DD < 16) = false := decide_eq_false h16
            clear hav HU HA hqt h16
            go_wp2_with fail
            simp only [List.append_eq, List.cons_append, List.nil_append]
            go_quiet (fail)
            go_wp2_with fail
            go_quiet (fail)
            go_wp2_with fail
            go_ret
            exact ⟨rfl, below_drewN (below_drewN HB7.out _) _⟩
    · rcases (show z < 0 ∨ (0 ≤ z ∧ (m : Int) ≤ z) ∨ (0 ≤ z ∧ z < m ∧ u < 0) ∨ (0 ≤ z ∧ z < m ∧ 0 ≤ u ∧ (n : Int) ≤ u) by omega) with hz | ⟨hz0, hz1⟩ | ⟨hz0, hz1, hu⟩ | ⟨hz0, hz1, hu0, hu1⟩
      · clear hin
        go_wp2_with fail
        go_ret
        exact ⟨rfl, HB2.out⟩
      · have hd1 : decide (z < 0) = false := decide_eq_false (by omega)
        clear hin
        go_wp2_with fail
        go_ret
        exact ⟨rfl, HB2.out⟩
      · have hd1 : decide (z < 0) = false := decide_eq_false (by omega)
        have hd2 : decide ((m : Int) ≤ z) = false := decide_eq_false (by omega)
        clear hin
        go_wp2_with fail
        go_ret
        exact ⟨rfl, HB2.out⟩
      · have hd1 : decide (z < 0) = false := decide_eq_false (by omega)
        have hd2 : decide ((m : Int) ≤ z) = false := decide_eq_false (by omega)
        have hd3 : decide (u < 0) = false := decide_eq_false (by omega)
        clear hin
        go_wp2_with fail
        go_ret
        exact ⟨rfl, HB2.out⟩
  · have HFR := Lib.hid hf
    clear hf
    refine (spfFar_bad x y A m cp a b c w HL.out hm v HFR.out).mono ?_
    rintro e w1 ⟨rfl, hb1⟩
    have HB1 := Lib.hid hb1
    clear hb1
    go_wp2_with fail
    have hcall := spfFar_ok 2 0 2 0 rfl rfl (some ⟨w1.heap.size, 0, none⟩) 1 1 (fun _ => 0) (fun _ => 1) (fun _ => 3) _ (lnk_lit w1) (by omega) good_lit (by omega)
    refine hcall.mono ?_
    clear hcall
    rintro e w2 ⟨g2, rfl, hg, hrow2, hb2⟩
    have hb12 : Below w1.heap.size w1 w2 := keepAlloc (Below.refl _ _) hb2
    have HB2 := Lib.hid (keep HB1.out hb12)
    have cf1 := hrow2.cell (i := 1) (by omega)
    rw [← end_lit 1 (by omega)] at cf1
    replace cf1 : w2.cell? ⟨g2, 1, none⟩ = some (.int .i64 3) := cf1
    clear hg hrow2 hb2 hb12 HB1
    go_wp2_with fail
    go_ret
    exact ⟨rfl, HB2.out⟩

end Go.Proofs.Ytekhafihmfkofaa

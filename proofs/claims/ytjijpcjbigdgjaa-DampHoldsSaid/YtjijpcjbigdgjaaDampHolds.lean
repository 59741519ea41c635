/- DampHolds: three times at once is held, twice is not; and held it stays, as long as the penalty is 750 or more. For all inputs; no condition. -/
import Derived.Test.YtjijpcjbigdgjaaDampLaw
namespace Go.Proofs.Ytjijpcjbigdgjaa
open Go.RowKit
set_option linter.unusedVariables false
attribute [local go_sem high] run_min_pair run_max_pair

/-- The penalty behind i flaps at once; whether that is held. -/
def penOf (i : Nat) : Int := min (1000 * i) 12000
def heldOf (i : Nat) : Bool := decide (2 < i)

theorem penAt_same {half now pen at_ : Int} (h : now = at_ ∨ pen = 0) : penAt half now pen at_ = pen := by
  unfold penAt
  rcases h with rfl | rfl
  · rw [Int.sub_self]
    have e : (min (0 : Int) 62).toNat = 0 := by decide
    rw [e]
    simp
  · simp

theorem flapped_penOf (i : Nat) : flapped (penOf i) = penOf (i + 1) := by unfold flapped penOf; omega

theorem heldOf_next (i : Nat) : (heldOf i && decide (750 ≤ penOf i) || decide (2000 < penOf (i + 1))) = heldOf (i + 1) := by
  unfold heldOf penOf
  rw [Bool.eq_iff_iff]
  simp
  omega

theorem heldOf_kept (i : Nat) : (heldOf i && decide (750 ≤ penOf i)) = heldOf i := by
  unfold heldOf penOf
  rw [Bool.eq_iff_iff]
  simp
  omega

theorem penOf_test (k : Nat) : (penOf k != min (1000 * (k : Int)) 12000) = false := by unfold penOf; simp
theorem heldOf_or (k : Nat) : ∃ b, heldOf k = b ∧ decide ((2 : Int) < (k : Int)) = b ∧ decide (2 < k) = b := by
  refine ⟨decide (2 < k), rfl, ?_, rfl⟩
  rw [Bool.eq_iff_iff]
  simp
  omega

set_option maxHeartbeats 3200000 in
theorem dampHolds_walk (half n at_ later : Int) (w : World) (hn0 : -9223372036854775808 ≤ n) (hn1 : n ≤ 9223372036854775807) :
    Calls Try.prog 6 #[.int .i64 half, .int .i64 n, .int .i64 at_, .int .i64 later] w fun e w' => e = .returned (.bool true) ∧ Below w.heap.size w w' := by
  by_cases hh : 1 ≤ half ∧ half ≤ 1000
  · obtain ⟨h1, h2⟩ := hh
    rcases timeOr 0 at_ with ⟨a0, a1⟩ | ab
    · obtain ⟨K, hK, hK2⟩ : ∃ K : Nat, max 0 (min n 20) = (K : Int) ∧ K ≤ 20 := ⟨(max 0 (min n 20)).toNat, by omega, by omega⟩
      have HK := Lib.hid hK
      clear hK
      go_enter Try.func6, Try.ntmps6
      go_wp2_with fail
      refine (damped_walk _).mono ?_
      rintro e w1 ⟨rfl, hw1⟩
      go_wp2_with fail
      refine (dampNew_ok half _ h1 h2).mono ?_
      rintro e w2 ⟨rfl, hd2, hw2⟩
      have hsz : w.heap.size ≤ w1.heap.size := hw1.size
      have HS : Hid (∃ now, (now = at_ ∨ penOf 0 = 0) ∧ now ≤ at_ ∧ Damp w2 w1.heap.size half now (penOf 0) (heldOf 0) ∧ Below w.heap.size w w2) := ⟨0, .inr rfl, a0, hd2, keep hw1 hw2⟩
      clear hd2 hw1 hw2
      obtain ⟨g, hg⟩ : ∃ g, g = w1.heap.size := ⟨_, rfl⟩
      rw [← hg] at HS hsz ⊢
      clear hg
      go_wp2_with fail
      rw [HK.out]
      go_loopw [13] (fun i wr => ∃ k : Nat, k ≤ K ∧ i = .int .i64 k ∧ ∃ now, (now = at_ ∨ penOf k = 0) ∧ now ≤ at_ ∧ Damp wr g half now (penOf k) (heldOf k) ∧ Below w.heap.size w wr) (fun i _ => K - (intOf i).toNat)
      case atStart => exact ⟨0, Nat.zero_le _, rfl, HS.out⟩
      case round =>
        obtain ⟨k, hk, rfl, now, hnow, hna, hd, hbw⟩ := hrel
        have HN := Lib.hid hnow
        have HD := Lib.hid hd
        clear hnow hd HS
        by_cases hlt : k < K
        · go_wp2_with fail
          refine (dampFlap_ok _ _ _ _ _ _ _ HD.out hna a1).mono ?_
          rintro e w3 ⟨rfl, hd3, hg3⟩
          rw [penAt_same HN.out, flapped_penOf] at hd3
          unfold heldAt at hd3
          rw [penAt_same HN.out, heldOf_next] at hd3
          have HD3 : Hid (∃ now, (now = at_ ∨ penOf (k + 1) = 0) ∧ now ≤ at_ ∧ Damp w3 g half now (penOf (k + 1)) (heldOf (k + 1)) ∧ Below w.heap.size w w3) := ⟨at_, .inl rfl, Int.le_refl _, hd3, below_only hbw hg3 hbw.size hsz⟩
          clear hd3 hg3
          go_wp2_with fail
          go_roundw
          case rel => exact ⟨k + 1, by omega, by go_num, HD3.out⟩
          case measure => simp [intOf]; omega
        · have hkK : k = K := by omega
          subst hkK
          go_wp2_with fail
          refine (dampAt_ok _ _ _ _ _ _ _ HD.out hna a1).mono ?_
          rintro e w3 ⟨rfl, hd3, hg3⟩
          have hb3 := below_only hbw hg3 hbw.size hsz
          unfold heldAt at hd3 ⊢
          rw [penAt_same HN.out, heldOf_kept] at hd3 ⊢
          have HD3 := Lib.hid hd3
          clear hd3 hg3 HN HD hbw
          have E1 := penOf_test k
          obtain ⟨b3, e3, h3, h4⟩ := heldOf_or k
          cases b3
          all_goals
            rw [e3] at HD3 ⊢
            clear e3
            rcases timeOr at_ later with ⟨l0, l1⟩ | lb
            · go_wp2_with fail
              refine (dampAt_ok _ _ _ _ _ _ _ HD3.out l0 l1).mono ?_
              rintro e w4 ⟨rfl, hd4, hg4⟩
              have hb4 := below_only hb3 hg4 hb3.size hsz
              clear hd4 hg4 HD3 hb3
              unfold heldAt
              generalize penAt half at_ (penOf k) later = q
              by_cases hq : 750 ≤ q
              all_goals
                go_wp2
                go_ret
                exact ⟨by first | rfl | simp [hq], hb4⟩
            · go_wp2_with fail
              refine (dampAt_bad _ _ _ _ _ _ _ HD3.out lb).mono ?_
              rintro e w4 ⟨rfl, rfl⟩
              rcases lb with lb | lb
              · go_wp2
                go_ret
                exact ⟨rfl, hb3⟩
              · by_cases hla : later < at_
                · omega
                · go_wp2
                  go_ret
                  exact ⟨rfl, hb3⟩
    · go_enter Try.func6, Try.ntmps6
      go_wp2_with fail
      refine (damped_walk _).mono ?_
      rintro e w1 ⟨rfl, hw1⟩
      go_wp2_with fail
      refine (dampNew_ok half _ h1 h2).mono ?_
      rintro e w2 ⟨rfl, hd2, hw2⟩
      clear hd2
      rcases ab with ab | ab
      · go_wp2
        go_ret
        exact ⟨rfl, keep hw1 hw2⟩
      · have hat : ¬ at_ < 0 := by omega
        go_wp2
        go_ret
        exact ⟨rfl, keep hw1 hw2⟩
  · go_enter Try.func6, Try.ntmps6
    go_wp2_with fail
    refine (damped_walk _).mono ?_
    rintro e w1 ⟨rfl, hw1⟩
    go_wp2_with fail
    refine (dampNew_bad half _ (by omega)).mono ?_
    rintro e w2 ⟨rfl, rfl⟩
    clear hh
    go_wp2
    go_ret
    exact ⟨rfl, hw1⟩

end Go.Proofs.Ytjijpcjbigdgjaa

/- DampFalls: who does not flap any more has no greater penalty later, half of it with each half time; who was not held is not; behind five half times nobody is. For all inputs; no condition. -/
import Derived.Test.YtjijpcjbigdgjaaDampLaw
namespace Go.Proofs.Ytjijpcjbigdgjaa
open Go.RowKit
set_option linter.unusedVariables false

theorem heldAt_no {half now pen t : Int} {held : Bool} (h : held = false) : heldAt half now pen t held = false := by
  subst h
  rfl

/-- What the law asks at last. -/
theorem falls_end {half x a b : Int} {h g : Bool} (h1 : 1 ≤ half) (h2 : half ≤ 1000) (hx : 0 ≤ x) (hx2 : x ≤ 12000) (hg : g = heldAt half a x b h) :
    penAt half a x b ≤ x ∧ (h = false → g = false) ∧ (half ≤ b - a → 2 * penAt half a x b ≤ x) ∧ (5 * half ≤ b - a → g = false) :=
  ⟨penAt_hi hx, fun e => by rw [hg]; exact heldAt_no e, fun e => penAt_half h1 hx e, fun e => by rw [hg]; exact heldAt_five h1 hx hx2 e⟩

set_option maxHeartbeats 3200000 in
theorem dampFalls_walk (half : Int) (A : Option Addr) (n c : Nat) (f : Nat → Int) (a b : Int) (w : World) (hv : Vec w A n f) (hn : n ≤ 9223372036854775807)
    (ha0 : -9223372036854775808 ≤ a) (ha1 : a ≤ 9223372036854775807) (hb0 : -9223372036854775808 ≤ b) (hb1 : b ≤ 9223372036854775807) :
    Calls Try.prog 5 #[.int .i64 half, .slice A n c, .int .i64 a, .int .i64 b] w fun e w' => e = .returned (.bool true) ∧ Below w.heap.size w w' := by
  by_cases hh : 1 ≤ half ∧ half ≤ 1000
  · obtain ⟨h1, h2⟩ := hh
    go_enter Try.func5, Try.ntmps5
    go_wp2_with fail
    refine (damped_walk _).mono ?_
    rintro e w1 ⟨rfl, hw1⟩
    go_wp2_with fail
    refine (dampNew_ok half _ h1 h2).mono ?_
    rintro e w2 ⟨rfl, hd2, hw2⟩
    have hsz : w.heap.size ≤ w1.heap.size := hw1.size
    have HV : Hid (Vec w A n f) := hv
    have HS : Hid (∃ now pen held, Damp w2 w1.heap.size half now pen held ∧ Below w.heap.size w w2) := ⟨_, _, _, hd2, keep hw1 hw2⟩
    clear hv hd2 hw1 hw2
    obtain ⟨g, hg⟩ : ∃ g, g = w1.heap.size := ⟨_, rfl⟩
    rw [← hg] at HS hsz ⊢
    clear hg
    go_wp2_with fail
    go_loopw [12] (fun i wr => ∃ k : Nat, k ≤ n ∧ i = .int .i64 k ∧ ∃ now pen held, Damp wr g half now pen held ∧ Below w.heap.size w wr) (fun i _ => n - (intOf i).toNat)
    case atStart => exact ⟨0, Nat.zero_le _, rfl, HS.out⟩
    case round =>
      obtain ⟨k, hk, rfl, now, pen, held, hd, hbw⟩ := hrel
      by_cases hlt : k < n
      · obtain ⟨ad, rfl, hadb, hc⟩ := HV.out k hlt
        have hc' : wr.cell? (ad.add k) = some (.int .i64 (f k)) := (hbw.cell (by rw [block_of_add]; exact hadb)).trans hc
        clear hc HS
        rcases timeOr now (f k) with ⟨t0, t1⟩ | tb
        · have HD := Lib.hid hd
          clear hd
          go_wp2_with fail
          refine (dampFlap_ok _ _ _ _ _ _ _ HD.out t0 t1).mono ?_
          rintro e w3 ⟨rfl, hd3, hg3⟩
          have HD3 : Hid (∃ now pen held, Damp w3 g half now pen held ∧ Below w.heap.size w w3) := ⟨_, _, _, hd3, below_only hbw hg3 hbw.size hsz⟩
          clear hd3 hg3
          go_wp2_with fail
          go_roundw
          case rel => exact ⟨k + 1, by omega, by go_num, HD3.out⟩
          case measure => simp [intOf]; omega
        · have HD := Lib.hid hd
          clear hd
          go_wp2_with fail
          refine (dampFlap_bad _ _ _ _ _ _ _ HD.out tb).mono ?_
          rintro e w3 ⟨rfl, rfl⟩
          go_wp2_with fail
          go_roundw
          case rel => exact ⟨k + 1, by omega, by go_num, now, pen, held, HD.out, hbw⟩
          case measure => simp [intOf]; omega
      · clear HS HV
        have HD := Lib.hid hd
        clear hd
        rcases timeOr now a with ⟨t0, t1⟩ | tb
        · go_wp2_with fail
          refine (dampAt_ok _ _ _ _ _ _ _ HD.out t0 t1).mono ?_
          rintro e w3 ⟨rfl, hd3, hg3⟩
          have hb3 := below_only hbw hg3 hbw.size hsz
          have HD3 := Lib.hid hd3
          have hx0 := hd3.h6
          have hx1 := hd3.h7
          have ha2 := hd3.h3
          clear hd3 hbw hg3 HD
          generalize penAt half now pen a = x at *
          generalize heldAt half now pen a held = h at *
          rcases timeOr a b with ⟨s0, s1⟩ | tb
          · go_wp2_with fail
            refine (dampAt_ok _ _ _ _ _ _ _ HD3.out s0 s1).mono ?_
            rintro e w4 ⟨rfl, hd4, hg4⟩
            have hb4 := below_only hb3 hg4 hb3.size hsz
            have hy0 := hd4.h6
            obtain ⟨F1, F2, F3, F4⟩ := falls_end (b := b) h1 h2 hx0 hx1 (rfl : heldAt half a x b h = heldAt half a x b h)
            clear hd4 hg4 HD3 hb3
            generalize penAt half a x b = y at *
            generalize heldAt half a x b h = g2 at *
            have F5 : half ≤ b - a → ¬ x < 2 * y := fun e => by have := F3 e; omega
            have F6 : g2 = true → h = true := fun e => by cases h <;> simp_all
            have F7 : g2 = true → b - a < 5 * half := fun e => by
              by_cases hq : 5 * half ≤ b - a
              · rw [F4 hq] at e; cases e
              · omega
            clear F2 F3 F4
            by_cases hq : half ≤ b - a
            · have F8 := F5 hq
              clear F5
              cases g2
              · clear F6 F7
                go_wp2
                all_goals
                  go_ret
                  exact ⟨rfl, hb4⟩
              · have F9 := F6 rfl
                have F10 := F7 rfl
                subst F9
                clear F6 F7
                go_wp2
                go_ret
                exact ⟨rfl, hb4⟩
            · clear F5
              have hq5 : b - a < 5 * half := by omega
              cases g2
              · clear F6 F7
                go_wp2
                go_ret
                exact ⟨rfl, hb4⟩
              · have F9 := F6 rfl
                subst F9
                clear F6 F7
                go_wp2
                go_ret
                exact ⟨rfl, hb4⟩
          · go_wp2_with fail
            refine (dampAt_bad _ _ _ _ _ _ _ HD3.out tb).mono ?_
            rintro e w4 ⟨rfl, rfl⟩
            go_wp2
            go_ret
            exact ⟨rfl, hb3⟩
        · go_wp2_with fail
          refine (dampAt_bad _ _ _ _ _ _ _ HD.out tb).mono ?_
          rintro e w3 ⟨rfl, rfl⟩
          rcases timeOr now b with ⟨s0, s1⟩ | tb2
          · go_wp2_with fail
            refine (dampAt_ok _ _ _ _ _ _ _ HD.out s0 s1).mono ?_
            rintro e w4 ⟨rfl, hd4, hg4⟩
            have hb4 := below_only hbw hg4 hbw.size hsz
            clear hd4 hg4 HD
            go_wp2
            go_ret
            exact ⟨rfl, hb4⟩
          · go_wp2_with fail
            refine (dampAt_bad _ _ _ _ _ _ _ HD.out tb2).mono ?_
            rintro e w4 ⟨rfl, rfl⟩
            go_wp2
            go_ret
            exact ⟨rfl, hbw⟩
  · go_enter Try.func5, Try.ntmps5
    go_wp2_with fail
    refine (damped_walk _).mono ?_
    rintro e w1 ⟨rfl, hw1⟩
    go_wp2_with fail
    refine (dampNew_bad half _ (by omega)).mono ?_
    rintro e w2 ⟨rfl, rfl⟩
    clear hv hh
    go_wp2
    go_ret
    exact ⟨rfl, hw1⟩

end Go.Proofs.Ytjijpcjbigdgjaa

/- The walk of the reference's GraphFault. -/
import Derived.Test.YtbepfmcaolmhgaaDoorCost
import Derived.BigQuiet
import Derived.Deep.QuietTactic
namespace Go.Proofs.YtbepfmcaolmhgaaDoor
open Go.RowKit
set_option linter.unusedVariables false

theorem samePair_iff (a b : Nat → Int) (j : Nat) (u v : Int) : SamePair (a j) (b j) u v ↔ Mt a b j u v := by
  unfold SamePair Mt
  omega

set_option maxRecDepth 100000 in
set_option maxHeartbeats 2000000 in
theorem graphFault_to (n : Nat) (x : Int) (hx : x = (n : Int)) (A : Option Addr) (m cp : Nat) (a b c : Nat → Int) (w : World) (hl : Lnk w A m a b c) (h1 : 1 ≤ n) (h8 : n ≤ 8) (hm : m ≤ 9223372036854775807) (lim : Nat) (hlm : lim ≤ m) (hr : Right n lim a b c) (v : Int)
    (hv : (lim = m ∧ v = 0) ∨ (lim < m ∧ Wrong n lim a b c v)) :
    Calls Tryd.prog 20 #[.int .i64 x, .slice A m cp] w fun e w' => e = .returned (.int .i64 v) ∧ Below w.heap.size w w' := by
  subst hx
  have h1' : (1 : Int) ≤ n := by omega
  have h8' : (n : Int) ≤ 8 := by omega
  have HL := Lib.hid hl
  have HR := Lib.hid hr
  have HV := Lib.hid hv
  clear hl hr hv
  go_enter Tryd.func20, Tryd.ntmps20
  go_wp2_with fail
  go_loopw [5] (fun i wr => ∃ r : Nat, r ≤ lim ∧ i = .int .i64 r ∧ Below w.heap.size w wr) (fun i _ => lim - (intOf i).toNat)
  case atStart => exact ⟨0, by omega, rfl, Below.refl _ _⟩
  case round =>
    obtain ⟨r, hrm, rfl, hb⟩ := hrel
    obtain ⟨wo, hwo⟩ : ∃ wo, wo = wr := ⟨_, rfl⟩
    subst hwo
    by_cases hlt : r < lim
    · have hlt' : (r : Int) < m := by omega
      obtain ⟨ad, rfl, hc0, hc1, hc2⟩ := HL.out.cells hb r (by omega)
      obtain ⟨⟨ha0, ha1, hb0, hb1, hk0, hk1⟩, hne, hnew⟩ := HR.out r hlt
      have hd : (a r == b r) = false := beq_false_of_ne hne
      have HNEW : Hid (∀ j, j < r → ¬ Mt a b j (a r) (b r)) := fun j hj h => hnew j hj ((samePair_iff a b j _ _).2 h)
      have HB := Lib.hid hb
      clear hb hnew hne
      go_wp2_with fail
      go_loopw [7] (fun i wj => ∃ q : Nat, q ≤ r ∧ i = .int .i64 q ∧ ∃ N, wj = (wo.alloc (.cells #[.int .i64 (a r), .int .i64 (b r), .int .i64 (c r)] 32)).drewN N) (fun i _ => r - (intOf i).toNat)
      case atStart => exact ⟨0, by omega, rfl, 0, rfl⟩
      case round =>
        obtain ⟨q, hq, rfl, N, rfl⟩ := hrel
        by_cases hqr : q < r
        · have hqr' : (q : Int) < r := by omega
          have hqm : (q : Int) < m := by omega
          have hbN := (HB.out.alloc HB.out.size (.cells #[.int .i64 (a r), .int .i64 (b r), .int .i64 (c r)] 32))
          obtain ⟨ad', hA', hd0, hd1, hd2⟩ := HL.out.cells hbN q (by omega)
          obtain rfl : ad = ad' := Option.some.inj hA'
          have hmt := HNEW.out q hqr
          clear hA' hbN hd2
          by_cases e1 : a q = a r
          · have e2 : b q ≠ b r := fun e => hmt (.inl ⟨e1, e⟩)
            rw [e1] at hd0
            have hd3 : (b q == b r) = false := beq_false_of_ne e2
            clear e1 e2 hmt
            go_wp2_with fail
            go_quiet (fail)
            go_wp2_with fail
            go_roundw
            case rel => exact ⟨q + 1, by omega, by go_num, _, rfl⟩
            case measure => simp [intOf]; omega
          · have hd1' : (a q == a r) = false := beq_false_of_ne e1
            by_cases e3 : a q = b r
            · have e2 : b q ≠ a r := fun e => hmt (.inr ⟨e3, e⟩)
              have hd3 : (b q == a r) = false := beq_false_of_ne e2
              rw [e3] at hd0 hd1'
              clear e1 e2 e3 hmt
              go_wp2_with fail
              go_quiet (fail)
              go_wp2_with fail
              go_roundw
              case rel => exact ⟨q + 1, by omega, by go_num, _, rfl⟩
              case measure => simp [intOf]; omega
            · have hd3 : (a q == b r) = false := beq_false_of_ne e3
              clear e1 e3 hmt
              go_wp2_with fail
              go_quiet (fail)
              go_wp2_with fail
              go_roundw
              case rel => exact ⟨q + 1, by omega, by go_num, _, rfl⟩
              case measure => simp [intOf]; omega
        · obtain rfl : q = r := by omega
          have HB1 : Hid (Below w.heap.size w ((wo.alloc (.cells #[.int .i64 (a q), .int .i64 (b q), .int .i64 (c q)] 32)).drewN N)) := below_drewN (HB.out.alloc HB.out.size _) N
          go_wp2_with fail
          go_roundw
          case rel => exact ⟨q + 1, by omega, by go_num, HB1.out⟩
          case measure => simp [intOf]; omega
    · have er : r = lim := by omega
      subst er
      rcases HV.out with ⟨e1, rfl⟩ | ⟨hlm', hw⟩
      · subst e1
        go_wp2_with fail
        go_ret
        exact ⟨rfl, hb⟩
      · have hlt' : (r : Int) < m := by omega
        obtain ⟨ad, rfl, hc0, hc1, hc2⟩ := HL.out.cells hb r hlm'
        have HB := Lib.hid hb
        rcases hw with ⟨hbad, rfl⟩ | ⟨⟨ha0, ha1, hb0, hb1, hk0, hk1⟩, he, rfl⟩ | ⟨⟨ha0, ha1, hb0, hb1, hk0, hk1⟩, hne, hold, rfl⟩
        · have hbelow : Hid (Below w.heap.size w (wo.alloc (.cells #[.int .i64 (a r), .int .i64 (b r), .int .i64 (c r)] 32))) := HB.out.alloc HB.out.size _
          clear hb
          by_cases h1 : 0 ≤ a r
          · by_cases h2 : a r < n
            · by_cases h3 : 0 ≤ b r
              · by_cases h4 : b r < n
                · by_cases h5 : 1 ≤ c r
                  · have h6 : 15 < c r := by
                      rcases Int.lt_or_le 15 (c r) with h | h
                      · exact h
                      · exact absurd ⟨h1, h2, h3, h4, h5, h⟩ hbad
                    clear hbad
                    go_wp2_with fail
                    go_ret
                    exact ⟨rfl, hbelow.out⟩
                  · clear hbad
                    have h5' : c r < 1 := by omega
                    go_wp2_with fail
                    go_ret
                    exact ⟨rfl, hbelow.out⟩
                · clear hbad
                  have h4' : (n : Int) ≤ b r := by omega
                  go_wp2_with fail
                  go_ret
                  exact ⟨rfl, hbelow.out⟩
              · clear hbad
                have h3' : b r < 0 := by omega
                go_wp2_with fail
                go_ret
                exact ⟨rfl, hbelow.out⟩
            · clear hbad
              have h2' : (n : Int) ≤ a r := by omega
              go_wp2_with fail
              go_ret
              exact ⟨rfl, hbelow.out⟩
          · clear hbad
            have h1'' : a r < 0 := by omega
            go_wp2_with fail
            go_ret
            exact ⟨rfl, hbelow.out⟩
        · have hbelow : Hid (Below w.heap.size w (wo.alloc (.cells #[.int .i64 (a r), .int .i64 (a r), .int .i64 (c r)] 32))) := HB.out.alloc HB.out.size _
          rw [← he] at hc1
          clear hb he hb0 hb1
          go_wp2_with fail
          go_ret
          exact ⟨rfl, hbelow.out⟩
        · have hd : (a r == b r) = false := beq_false_of_ne hne
          have HOLD : Hid (∃ j, j < r ∧ Mt a b j (a r) (b r)) := by
            obtain ⟨j, hj, h⟩ := hold
            exact ⟨j, hj, (samePair_iff a b j _ _).1 h⟩
          clear hb hne hold
          go_wp2_with fail
          go_loopw [7] (fun i wj => ∃ q : Nat, q ≤ r ∧ i = .int .i64 q ∧ Hid (∀ j, j < q → ¬ Mt a b j (a r) (b r)) ∧ ∃ N, wj = (wo.alloc (.cells #[.int .i64 (a r), .int .i64 (b r), .int .i64 (c r)] 32)).drewN N) (fun i _ => r - (intOf i).toNat)
          case atStart => exact ⟨0, by omega, rfl, Lib.hid (fun j hj => absurd hj (by omega)), 0, rfl⟩
          case round =>
            obtain ⟨q, hq, rfl, hno, N, rfl⟩ := hrel
            have HNO := hno
            clear hno
            by_cases hqr : q < r
            · have hqr' : (q : Int) < r := by omega
              have hqm : (q : Int) < m := by omega
              have hbN := (HB.out.alloc HB.out.size (.cells #[.int .i64 (a r), .int .i64 (b r), .int .i64 (c r)] 32))
              obtain ⟨ad', hA', hd0, hd1, hd2⟩ := HL.out.cells hbN q (by omega)
              obtain rfl : ad = ad' := Option.some.inj hA'
              clear hA' hd2
              have HBE : Hid (∀ K, Below w.heap.size w ((wo.alloc (.cells #[.int .i64 (a r), .int .i64 (b r), .int .i64 (c r)] 32)).drewN K)) := fun K => below_drewN hbN K
              clear hbN
              by_cases hmt : Mt a b q (a r) (b r)
              · by_cases hfst : a q = a r ∧ b q = b r
                · obtain ⟨e1, e2⟩ := hfst
                  rw [e1] at hd0
                  rw [e2] at hd1
                  clear e1 e2 hmt
                  go_wp2_with fail
                  go_quiet (fail)
                  go_wp2_with fail
                  go_ret
                  exact ⟨rfl, by rw [World.drewN_drewN]; exact HBE.out _⟩
                · have hsnd : a q = b r ∧ b q = a r := hmt.resolve_left hfst
                  obtain ⟨e1, e2⟩ := hsnd
                  have hd3 : (b r == a r) = false := beq_false_of_ne fun e => hfst ⟨by omega, by omega⟩
                  rw [e1] at hd0
                  rw [e2] at hd1
                  clear e1 e2 hmt hfst
                  go_wp2_with fail
                  go_quiet (fail)
                  go_wp2_with fail
                  go_ret
                  exact ⟨rfl, by rw [World.drewN_drewN]; exact HBE.out _⟩
              · have HN1 : Hid (∀ j, j < q + 1 → ¬ Mt a b j (a r) (b r)) := fun j hj => by
                  rcases Nat.lt_or_ge j q with h | h
                  · exact HNO.out j h
                  · obtain rfl : j = q := by omega
                    exact hmt
                by_cases e1 : a q = a r
                · have e2 : b q ≠ b r := fun e => hmt (.inl ⟨e1, e⟩)
                  rw [e1] at hd0
                  have hd3 : (b q == b r) = false := beq_false_of_ne e2
                  clear e1 e2 hmt
                  go_wp2_with fail
                  go_quiet (fail)
                  go_wp2_with fail
                  go_roundw
                  case rel => exact ⟨q + 1, by omega, by go_num, HN1, _, rfl⟩
                  case measure => simp [intOf]; omega
                · have hd1' : (a q == a r) = false := beq_false_of_ne e1
                  by_cases e3 : a q = b r
                  · have e2 : b q ≠ a r := fun e => hmt (.inr ⟨e3, e⟩)
                    have hd3 : (b q == a r) = false := beq_false_of_ne e2
                    rw [e3] at hd0 hd1'
                    clear e1 e2 e3 hmt
                    go_wp2_with fail
                    go_quiet (fail)
                    go_wp2_with fail
                    go_roundw
                    case rel => exact ⟨q + 1, by omega, by go_num, HN1, _, rfl⟩
                    case measure => simp [intOf]; omega
                  · have hd3 : (a q == b r) = false := beq_false_of_ne e3
                    clear e1 e3 hmt
                    go_wp2_with fail
                    go_quiet (fail)
                    go_wp2_with fail
                    go_roundw
                    case rel => exact ⟨q + 1, by omega, by go_num, HN1, _, rfl⟩
                    case measure => simp [intOf]; omega
            · exfalso
              obtain ⟨j, hj, h⟩ := HOLD.out
              exact HNO.out j (by omega) h

theorem graphFault_good (x : Int) (A : Option Addr) (m cp : Nat) (a b c : Nat → Int) (w : World) (hl : Lnk w A m a b c) (hm : m ≤ 9223372036854775807) (h : GoodG x m a b c) :
    Calls Tryd.prog 20 #[.int .i64 x, .slice A m cp] w fun e w' => e = .returned (.int .i64 0) ∧ Below w.heap.size w w' := by
  obtain ⟨h1, h8, hr⟩ := h
  exact graphFault_to x.toNat x (by omega) A m cp a b c w hl (by omega) (by omega) hm m (Nat.le_refl _) hr _ (.inl ⟨rfl, rfl⟩)

set_option maxRecDepth 100000 in
set_option maxHeartbeats 1000000 in
theorem graphFault_size (x : Int) (A : Option Addr) (m c : Nat) (w : World) (hx : x < 1 ∨ 8 < x) :
    Calls Tryd.prog 20 #[.int .i64 x, .slice A m c] w fun e w' => e = .returned (.int .i64 1) ∧ Below w.heap.size w w' := by
  rcases hx with hx | hx
  · go_enter Tryd.func20, Tryd.ntmps20
    go_wp2_with fail
    go_ret
    exact ⟨rfl, Below.refl _ _⟩
  · go_enter Tryd.func20, Tryd.ntmps20
    go_wp2_with fail
    go_ret
    exact ⟨rfl, Below.refl _ _⟩

theorem graphFault_bad (x : Int) (A : Option Addr) (m cp : Nat) (a b c : Nat → Int) (w : World) (hl : Lnk w A m a b c) (hm : m ≤ 9223372036854775807) (k : Int) (h : FaultG x m a b c k) :
    Calls Tryd.prog 20 #[.int .i64 x, .slice A m cp] w fun e w' => e = .returned (.int .i64 k) ∧ Below w.heap.size w w' := by
  rcases h with ⟨h, rfl⟩ | ⟨h1, h8, i, hi, hr, hw⟩
  · exact graphFault_size x A m cp w h
  · exact graphFault_to x.toNat x (by omega) A m cp a b c w hl (by omega) (by omega) hm i (by omega) hr _ (.inr ⟨hi, hw⟩)

end Go.Proofs.YtbepfmcaolmhgaaDoor

/- The walk of waywardensame.Rows: are two lists of lists the same? -/
import Derived.Test.YtlbdbfmgkappaaaDoorInts
namespace Go.Proofs.YtlbdbfmgkappaaaDoor
open Go.RowKit
set_option linter.unusedVariables false

set_option maxRecDepth 100000 in
set_option maxHeartbeats 1000000 in
theorem rows_walk (A B : Option Addr) (n m ca cb : Nat) (L M : Nat → Nat) (f g : Nat → Nat → Int) (w : World) (hA : Mat w A n L f) (hB : Mat w B m M g) (hn : n ≤ 9223372036854775807) (hm : m ≤ 9223372036854775807)
    (hL : ∀ i, i < n → L i ≤ 9223372036854775807) (hM : ∀ i, i < m → M i ≤ 9223372036854775807) (b : Bool) (hb : b = true ↔ SameM n m L M f g) :
    Calls Tryd.prog 37 #[.slice A n ca, .slice B m cb] w fun e w' => e = .returned (.bool b) ∧ ∃ k, w' = w.drewN k := by
  have HA := Lib.hid hA
  have HB := Lib.hid hB
  have HV := Lib.hid hb
  clear hA hB hb
  by_cases hnm : n = m
  · subst hnm
    have HL := Lib.hid hL
    have HM := Lib.hid hM
    clear hL hM
    go_enter Tryd.func37, Tryd.ntmps37
    go_wp2_with fail
    go_loopw [5] (fun i wr => ∃ r : Nat, r ≤ n ∧ i = .int .i64 r ∧ Hid (∀ j, j < r → SameV (L j) (M j) (f j) (g j)) ∧ ∃ k, wr = w.drewN k) (fun i _ => n - (intOf i).toNat)
    case atStart => exact ⟨0, by omega, rfl, Lib.hid (fun j hj => absurd hj (by omega)), 0, rfl⟩
    case round =>
      obtain ⟨r, hr, rfl, hd, k, rfl⟩ := hrel
      have HD := hd
      clear hd
      by_cases hlt : r < n
      · have hlt' : (r : Int) < n := by omega
        obtain ⟨ad, Ai, ci, rfl, hal, hac, hav⟩ := HA.out r hlt
        obtain ⟨bd, Bi, di, rfl, hbl, hbc, hbv⟩ := HB.out r hlt
        have HAV := Lib.hid hav
        have HBV := Lib.hid hbv
        clear hav hbv
        by_cases he : SameV (L r) (M r) (f r) (g r)
        · have HE := Lib.hid he
          clear he
          go_wp2_with fail
          go_quiet ((go_at_call 36; exact quiet_adds (ints_walk Ai Bi (L r) (M r) ci di (f r) (g r) _ (HAV.out.drewN _) (HBV.out.drewN _) (HL.out r hlt) (HM.out r hlt) true ⟨fun _ => HE.out, fun _ => rfl⟩)))
          go_wp2_with fail
          go_roundw
          case rel => exact ⟨r + 1, by omega, by go_num, Lib.hid (fun j hj => by
              rcases Nat.lt_or_ge j r with h | h
              · exact HD.out j h
              · obtain rfl : j = r := by omega
                exact HE.out), _, rfl⟩
          case measure => simp [intOf]; omega
        · have hv : b = false := by
            cases b
            · rfl
            · exact absurd ((HV.out.1 rfl).2 r hlt) he
          subst hv
          have HE := Lib.hid he
          clear he
          go_wp2_with fail
          go_quiet ((go_at_call 36; exact quiet_adds (ints_walk Ai Bi (L r) (M r) ci di (f r) (g r) _ (HAV.out.drewN _) (HBV.out.drewN _) (HL.out r hlt) (HM.out r hlt) false ⟨fun h => absurd h (by decide), fun h => absurd h HE.out⟩)))
          go_wp2_with fail
          go_ret
          exact ⟨rfl, _, rfl⟩
      · have er : r = n := by omega
        subst er
        have hv : b = true := HV.out.2 ⟨rfl, HD.out⟩
        subst hv
        go_wp2_with fail
        go_ret
        exact ⟨rfl, k, rfl⟩
  · have hv : b = false := by
      cases b
      · rfl
      · exact absurd (HV.out.1 rfl).1 hnm
    subst hv
    have hd : decide ((n : Int) = (m : Int)) = false := by
      apply decide_eq_false
      omega
    go_enter Tryd.func37, Tryd.ntmps37
    go_wp2_with fail
    go_ret
    exact ⟨rfl, 0, rfl⟩

end Go.Proofs.YtlbdbfmgkappaaaDoor

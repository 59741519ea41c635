/- container/heap over spf's places: whatever their order. -/
import Derived.Test.YtminfghiejgieaaDoorPlOps
namespace Go.Proofs.YtminfghiejgieaaDoor
open Go.RowKit
set_option linter.unusedVariables false

theorem keep_swap {m i j : Nat} {F G F' G' : Nat → Int} (h : ∀ q, m ≤ q → F' q = F q ∧ G' q = G q) (hi : i < m) (hj : j < m) : ∀ q, m ≤ q → swapV F' i j q = F q ∧ swapV G' i j q = G q := fun q hq => by
  rw [swapV_at, swapV_at, if_neg (by omega), if_neg (by omega), if_neg (by omega), if_neg (by omega)]
  exact h q hq

abbrev plI (p : Nat) : Value := .iface 142 (.pointer (some ⟨p, 0, none⟩))

set_option maxRecDepth 100000 in
set_option maxHeartbeats 2000000 in
theorem plDown (p g n cap i0 m : Nat) (x y : Int) (hx : x = (i0 : Int)) (hy : y = (m : Int)) (F G : Nat → Int) (w : World) (h : Pl w p g n cap F G) (hm : m ≤ n) (hn : n ≤ 100000) (hi0 : i0 ≤ 100000) :
    Calls Tryd.prog 76 #[plI p, .int .i64 x, .int .i64 y] w fun e w' => ∃ b F' G', e = .returned (.bool b) ∧ Pl w' p g n cap F' G' ∧ Same2 m F G F' G' ∧ (∀ i, m ≤ i → F' i = F i ∧ G' i = G i) ∧ Touch (plS p g) w w' := by
  subst hx
  subst hy
  have H0 : Hid (∃ F' G', Pl w p g n cap F' G' ∧ Same2 m F G F' G' ∧ (∀ i, m ≤ i → F' i = F i ∧ G' i = G i) ∧ Touch (plS p g) w w) := ⟨F, G, h, Same2.refl _ _ _, fun _ _ => ⟨rfl, rfl⟩, Touch.refl _ _⟩
  clear h
  go_enter Tryd.func76, Tryd.ntmps76
  go_wp2_with fail
  go_loopw [7] (fun v wr => ∃ i : Nat, (i < m ∨ i = i0) ∧ i ≤ 100000 ∧ v = .int .i64 i ∧ ∃ F' G', Pl wr p g n cap F' G' ∧ Same2 m F G F' G' ∧ (∀ i, m ≤ i → F' i = F i ∧ G' i = G i) ∧ Touch (plS p g) w wr) (fun v _ => 200000 - (intOf v).toNat)
  case atStart => exact ⟨i0, .inr rfl, hi0, rfl, H0.out⟩
  case round =>
    obtain ⟨i, hi, hi1, rfl, F', G', h', hs, hk, ht⟩ := hrel
    clear H0
    have H := Lib.hid h'
    have HS := Lib.hid hs
    have HI := Lib.hid hk
    have HT := Lib.hid ht
    have c0 := h'.head
    clear h' hs hk ht
    have n00 := plNil_less ⟨p, 0, none⟩ wr
    have m00 := plMeth_less ⟨p, 0, none⟩ _ _ _ wr H.out.head
    have n0 := fun k => plNil_less ⟨p, 0, none⟩ (wr.drewN k)
    have n1 := fun k => plNil_swap ⟨p, 0, none⟩ (wr.drewN k)
    have m0 := fun k => plMeth_less ⟨p, 0, none⟩ _ _ _ (wr.drewN k) (H.out.drewN k).head
    have m1 := fun k => plMeth_swap ⟨p, 0, none⟩ _ _ _ (wr.drewN k) (H.out.drewN k).head
    by_cases h1 : 2 * i + 1 < m
    · have h1' : 2 * (i : Int) + 1 < m := by omega
      by_cases h2 : 2 * i + 2 < m
      · have h2' : 2 * (i : Int) + 1 + 1 < m := by omega
        cases hA : decide (F' (2 * i + 2) < F' (2 * i + 1))
        · have HA := Lib.hid hA
          clear hA
          go_wp2_with fail
          have hcall := plLess p g n cap (2 * i + 2) (2 * i + 1) (2 * (i : Int) + 1 + 1) (2 * (i : Int) + 1) (by omega) (by omega) F' G' _ H.out (by omega) (by omega)
          refine hcall.mono ?_
          clear hcall
          rintro e w1 ⟨rfl, kx, rfl⟩
          rw [HA.out]
          cases hB : decide (F' (2 * i + 1) < F' i)
          · have HB := Lib.hid hB
            clear hB
            go_wp2_with fail
            have hcall := plLess p g n cap (2 * i + 1) i (2 * (i : Int) + 1) i (by omega) rfl F' G' _ (H.out.drewN kx) (by omega) (by omega)
            refine hcall.mono ?_
            clear hcall
            rintro e w2 ⟨rfl, k2, rfl⟩
            rw [HB.out]
            go_wp2_with fail
            go_ret
            exact ⟨_, F', G', rfl, H.out.drewN _, HS.out, HI.out, HT.out.drewN _⟩
          · have HB := Lib.hid hB
            clear hB
            go_wp2_with fail
            have hcall := plLess p g n cap (2 * i + 1) i (2 * (i : Int) + 1) i (by omega) rfl F' G' _ (H.out.drewN kx) (by omega) (by omega)
            refine hcall.mono ?_
            clear hcall
            rintro e w2 ⟨rfl, k2, rfl⟩
            rw [HB.out]
            go_wp2_with fail
            have hcall := plSwap p g n cap i (2 * i + 1) i (2 * (i : Int) + 1) rfl (by omega) F' G' _ (H.out.drewN (kx + k2)) (by omega) (by omega) (by omega)
            refine hcall.mono ?_
            clear hcall
            rintro e w3 ⟨rfl, h3, t3⟩
            have H3 := Lib.hid h3
            have T3 := Lib.hid (Touch.trans (HT.out.drewN _) t3)
            clear h3 t3
            go_wp2_with fail
            go_roundw
            case rel => exact ⟨2 * i + 1, .inl (by omega), by omega, by first | rfl | (congr 1; omega), _, _, H3.out, HS.out.trans (Same2.swap F' G' (by omega) (by omega)), keep_swap HI.out (by omega) (by omega), T3.out⟩
            case measure => simp [intOf]; omega
        · have HA := Lib.hid hA
          clear hA
          go_wp2_with fail
          have hcall := plLess p g n cap (2 * i + 2) (2 * i + 1) (2 * (i : Int) + 1 + 1) (2 * (i : Int) + 1) (by omega) (by omega) F' G' _ H.out (by omega) (by omega)
          refine hcall.mono ?_
          clear hcall
          rintro e w1 ⟨rfl, kx, rfl⟩
          rw [HA.out]
          cases hB : decide (F' (2 * i + 2) < F' i)
          · have HB := Lib.hid hB
            clear hB
            go_wp2_with fail
            have hcall := plLess p g n cap (2 * i + 2) i (2 * (i : Int) + 1 + 1) i (by omega) rfl F' G' _ (H.out.drewN kx) (by omega) (by omega)
            refine hcall.mono ?_
            clear hcall
            rintro e w2 ⟨rfl, k2, rfl⟩
            rw [HB.out]
            go_wp2_with fail
            go_ret
            exact ⟨_, F', G', rfl, H.out.drewN _, HS.out, HI.out, HT.out.drewN _⟩
          · have HB := Lib.hid hB
            clear hB
            go_wp2_with fail
            have hcall := plLess p g n cap (2 * i + 2) i (2 * (i : Int) + 1 + 1) i (by omega) rfl F' G' _ (H.out.drewN kx) (by omega) (by omega)
            refine hcall.mono ?_
            clear hcall
            rintro e w2 ⟨rfl, k2, rfl⟩
            rw [HB.out]
            go_wp2_with fail
            have hcall := plSwap p g n cap i (2 * i + 2) i (2 * (i : Int) + 1 + 1) rfl (by omega) F' G' _ (H.out.drewN (kx + k2)) (by omega) (by omega) (by omega)
            refine hcall.mono ?_
            clear hcall
            rintro e w3 ⟨rfl, h3, t3⟩
            have H3 := Lib.hid h3
            have T3 := Lib.hid (Touch.trans (HT.out.drewN _) t3)
            clear h3 t3
            go_wp2_with fail
            go_roundw
            case rel => exact ⟨2 * i + 2, .inl (by omega), by omega, by first | rfl | (congr 1; omega), _, _, H3.out, HS.out.trans (Same2.swap F' G' (by omega) (by omega)), keep_swap HI.out (by omega) (by omega), T3.out⟩
            case measure => simp [intOf]; omega
      · have h2' : decide (2 * (i : Int) + 1 + 1 < m) = false := by simp; omega
        have h2n : ¬ 2 * (i : Int) + 1 + 1 < (m : Int) := by omega
        clear h2
        cases hB : decide (F' (2 * i + 1) < F' i)
        · have HB := Lib.hid hB
          clear hB
          go_wp2_with fail
          have hcall := plLess p g n cap (2 * i + 1) i (2 * (i : Int) + 1) i (by omega) rfl F' G' _ H.out (by omega) (by omega)
          refine hcall.mono ?_
          clear hcall
          rintro e w2 ⟨rfl, k2, rfl⟩
          rw [HB.out]
          go_wp2_with fail
          go_ret
          exact ⟨_, F', G', rfl, H.out.drewN _, HS.out, HI.out, HT.out.drewN _⟩
        · have HB := Lib.hid hB
          clear hB
          go_wp2_with fail
          have hcall := plLess p g n cap (2 * i + 1) i (2 * (i : Int) + 1) i (by omega) rfl F' G' _ H.out (by omega) (by omega)
          refine hcall.mono ?_
          clear hcall
          rintro e w2 ⟨rfl, k2, rfl⟩
          rw [HB.out]
          go_wp2_with fail
          have hcall := plSwap p g n cap i (2 * i + 1) i (2 * (i : Int) + 1) rfl (by omega) F' G' _ (H.out.drewN k2) (by omega) (by omega) (by omega)
          refine hcall.mono ?_
          clear hcall
          rintro e w3 ⟨rfl, h3, t3⟩
          have H3 := Lib.hid h3
          have T3 := Lib.hid (Touch.trans (HT.out.drewN _) t3)
          clear h3 t3
          go_wp2_with fail
          go_roundw
          case rel => exact ⟨2 * i + 1, .inl (by omega), by omega, by first | rfl | (congr 1; omega), _, _, H3.out, HS.out.trans (Same2.swap F' G' (by omega) (by omega)), keep_swap HI.out (by omega) (by omega), T3.out⟩
          case measure => simp [intOf]; omega
    · have h1' : (m : Int) ≤ 2 * (i : Int) + 1 := by omega
      clear h1
      go_wp2_with fail
      go_ret
      exact ⟨_, F', G', rfl, H.out, HS.out, HI.out, HT.out⟩

end Go.Proofs.YtminfghiejgieaaDoor

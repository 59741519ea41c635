/- The walk of mat.Star. -/
import Derived.Test.YtekhafihmfkofaaTabAt
import Derived.Test.YtekhafihmfkofaaStarMath
namespace Go.Proofs.Ytekhafihmfkofaa
open Go.RowKit
set_option linter.unusedVariables false

theorem row_zero {w : World} {g n i : Nat} {a : Nat → Nat → Int} (h : RowP w g 3 n fun j => .int .i64 (a i j)) :
    RowP (w.setCell ⟨g, i, none⟩ (.int .i64 0)) g 3 n (fun j => .int .i64 (zeroF a i j)) := by
  refine (h.set i (.int .i64 0)).congr fun j hj => ?_
  unfold upd zeroF
  by_cases e : j = i
  · subst e; simp
  · rw [if_neg e, if_neg (fun h => e h.symm)]

theorem mid_set (F : Nat → Nat → Int) (j i k p q : Nat) : (if p = i ∧ q = k then overF F j i k else midF F j i k p q) = midF F j i (k + 1) p q := by
  unfold midF
  by_cases h : p = i ∧ q = k
  · obtain ⟨rfl, rfl⟩ := h
    rw [if_pos ⟨rfl, rfl⟩, if_pos (by omega)]
  · rw [if_neg h]
    by_cases h2 : p < i ∨ p = i ∧ q < k
    · rw [if_pos h2, if_pos (by omega)]
    · rw [if_neg h2, if_neg (by omega)]

theorem matStar_bad (A : Option Addr) (n c : Nat) (L : Nat → Nat) (f : Nat → Nat → Int) (w : World) (hm : Mat w A n L f) (hn : n ≤ 9223372036854775807) (h : ¬ Good n L f) :
    Calls Try.prog 24 #[.slice A n c] w fun e w' => e = .returned (.tuple #[.slice none 0 0, errNo (fault n L f)]) ∧ Below w.heap.size w w' := by
  have HA := Lib.hid hm
  have HN := Lib.hid h
  clear hm h
  go_enter Try.func24, Try.ntmps24
  go_wp2_with fail
  refine (matCheck_bad A n c L f w HA.out hn HN.out).mono ?_
  rintro e w1 ⟨rfl, hb1⟩
  go_wp2_with fail
  go_ret2
  exact ⟨rfl, hb1⟩

attribute [local go_sem high] run_min_pair

set_option maxRecDepth 100000 in
set_option maxHeartbeats 4000000 in
theorem matStar_ok (A : Option Addr) (n c : Nat) (L : Nat → Nat) (a : Nat → Nat → Int) (w : World) (hm : Mat w A n L a) (hg : Good n L a) :
    Calls Try.prog 24 #[.slice A n c] w fun e w' => ∃ D c', e = .returned (.tuple #[.slice D n c', .nilIface]) ∧ Mat w' D n (fun _ => n) (starF n a) ∧ Below w.heap.size w w' := by
  obtain ⟨ad, rfl⟩ := hm.some_ hg.1.1
  have h1 := hg.1.1
  have h8 := hg.1.2.1
  have h1' : (1 : Int) ≤ n := by omega
  have h8' : (n : Int) ≤ 8 := by omega
  have HA := Lib.hid (hg.1.mat hm)
  have HM := Lib.hid hm
  have HG := Lib.hid hg
  clear hm hg
  go_enter Try.func24, Try.ntmps24
  go_wp2_with fail
  refine (matCheck_good (some ad) n c L a w HM.out HG.out).mono ?_
  rintro e w1 ⟨rfl, hb1⟩
  have HB1 := Lib.hid hb1
  clear hb1
  go_wp2_with fail
  go_loopw [5, 19] (fun v i wr => ∃ r : Nat, r ≤ n ∧ i = .int .i64 r ∧ Tab wr w1.heap.size v r n (zeroF a) ∧ Below w1.heap.size w1 wr) (fun _ i _ => n - (intOf i).toNat)
  case atStart => exact ⟨0, by omega, rfl, Tab.nil _ _ _ _, Below.refl _ _⟩
  case round =>
    obtain ⟨r, hr, rfl, hT, hb⟩ := hrel
    have HT := Lib.hid hT
    have HB := Lib.hid hb
    clear hT hb
    by_cases hlt : r < n
    · have hlt' : (r : Int) < n := by omega
      have HBW := Lib.hid (keep HB1.out HB.out)
      obtain ⟨Ai, ci, hci, hAl, hvi⟩ := HA.out.sq h1 r hlt
      have hci := (HBW.out.cell (by rw [block_of_add]; exact hci.2)).trans hci.1
      have HV : Hid (Vec wr (some Ai) n (a r)) := fun j hj => ⟨Ai, rfl, Nat.lt_of_lt_of_le hAl HBW.out.size, (HBW.out.cell (by rw [block_of_add]; exact hAl)).trans (hvi j hj)⟩
      clear hvi hAl
      go_wp2_with fail
      have hcall := clone_ints (some Ai) n ci (a r) wr HV.out h1 (by omega)
      refine hcall.mono ?_
      clear hcall
      rintro e w2 ⟨g, cap, rfl, hgb, hrow, hb2⟩
      have hc1 := hrow.cell hlt
      have hz1 := hrow.frozen r
      have HR := Lib.hid (row_zero (i := r) hrow)
      have HGB := Lib.hid hgb
      have HB2 : Hid (Below wr.heap.size wr (w2.setCell ⟨g, r, none⟩ (.int .i64 0))) := hb2.setCell hgb _
      clear hrow hgb hb2 hci
      go_wp2_with (at_builtin; refine wpList_append_tab rfl (.tmp 29) (.tmp 31) rfl wr w1.heap.size _ r n (zeroF a) rfl HT.out (HB2.out.alloc HB2.out.size _) g cap HGB.out (HR.out.alloc _) _ rfl (cell_new_at _ _ _ (by simp [World.setCell])) (by omega) HB.out.size ?_)
      intro v3 w3 hT3 hb3
      have HT3 := Lib.hid hT3
      have HB3 : Hid (Below w1.heap.size w1 w3) := (HB.out.trans ((HB2.out.alloc HB2.out.size _).mono HB.out.size)).trans hb3
      clear hT3 hb3 hc1 hz1 HT HB HB2
      go_wp2_with fail
      go_roundw
      case rel => exact ⟨r + 1, by omega, by go_num, HT3.out, HB3.out⟩
      case measure => simp [intOf]; omega
    · have er : r = n := by omega
      subst er
      obtain ⟨B, C, hat⟩ := HT.out.at_
      obtain ⟨g, cg, rfl, hgb, hgl, hgc, hgn⟩ := hat.cells h1
      have HGB := Lib.hid hgb
      have HAT := Lib.hid hat
      have HBW := Lib.hid (keep HB1.out HB.out)
      have HRA := Lib.hid HG.out.2
      obtain ⟨w4, hw4⟩ : ∃ w4, w4 = wr := ⟨_, rfl⟩
      have HS : Hid (w1.heap.size ≤ wr.heap.size) := HB.out.size
      have HS1 : Hid (w.heap.size ≤ w1.heap.size) := HB1.out.size
      clear hat hgb hgl hgc hgn HT HB HB1 HA HM hw4
      go_wp2_with fail
      go_loopw [36] (fun i wj => ∃ j : Nat, j ≤ r ∧ i = .int .i64 j ∧ TabAt wj w1.heap.size (.slice (some ⟨g, 0, none⟩) r cg) B C r r (starTo a j) ∧ Below w.heap.size w wj) (fun i _ => r - (intOf i).toNat)
      case atStart => exact ⟨0, by omega, rfl, HAT.out, HBW.out⟩
      case round =>
        obtain ⟨j, hj, rfl, hat, hb⟩ := hrel
        obtain ⟨wo, rfl⟩ : ∃ wo : World, wo = wr := ⟨_, rfl⟩
        clear HAT HBW HS
        have HAT := Lib.hid hat
        have HB := Lib.hid hb
        clear hat hb
        by_cases hjl : j < r
        · have hjl' : (j : Int) < r := by omega
          have HF := Lib.hid (star_ranged HRA.out j (by omega))
          have HD := Lib.hid (star_diag HRA.out j (by omega) j hjl)
          go_wp2_with fail
          go_loopw [41] (fun i wi => ∃ p : Nat, p ≤ r ∧ i = .int .i64 p ∧ TabAt wi w1.heap.size (.slice (some ⟨g, 0, none⟩) r cg) B C r r (midF (starTo a j) j p 0) ∧ Below w.heap.size w wi) (fun i _ => r - (intOf i).toNat)
          case atStart => exact ⟨0, by omega, rfl, HAT.out.congr fun p q _ _ => (mid_start _ _ _ _).symm, HB.out⟩
          case round =>
            obtain ⟨p, hp, rfl, hat, hb⟩ := hrel
            obtain ⟨wi, rfl⟩ : ∃ wi : World, wi = wr := ⟨_, rfl⟩
            clear HAT HB
            have HAT := Lib.hid hat
            have HB := Lib.hid hb
            clear hat hb
            by_cases hpl : p < r
            · have hpl' : (p : Int) < r := by omega
              go_wp2_with fail
              go_loopw [46] (fun i wk => ∃ q : Nat, q ≤ r ∧ i = .int .i64 q ∧ TabAt wk w1.heap.size (.slice (some ⟨g, 0, none⟩) r cg) B C r r (midF (starTo a j) j p q) ∧ Below w.heap.size w wk) (fun i _ => r - (intOf i).toNat)
              case atStart => exact ⟨0, by omega, rfl, HAT.out, HB.out⟩
              case round =>
                obtain ⟨q, hq, rfl, hat, hb⟩ := hrel
                clear HAT HB
                have HAT := Lib.hid hat
                have HB := Lib.hid hb
                by_cases hql : q < r
                · have hql' : (q : Int) < r := by omega
                  obtain ⟨g', cg', e, -, -, hgc, -⟩ := hat.cells h1
                  have eg : g = g' := by
                    simp only [Value.slice.injEq, Option.some.injEq, Addr.mk.injEq] at e
                    exact e.1.1
                  subst eg
                  have hcp := hgc p hpl
                  have hcj := hgc j hjl
                  have hpq := (hat.row p hpl).2.cell hql
                  have hpj := (hat.row p hpl).2.cell hjl
                  have hjq := (hat.row j hjl).2.cell hql
                  have hfz := (hat.row p hpl).2.frozen q
                  have e1 : midF (starTo a j) j p q p q = starTo a j p q := by unfold midF; rw [if_neg (by omega)]
                  rw [e1] at hpq
                  rw [mid_col HF.out HD.out hjl hpl] at hpj
                  rw [mid_row HF.out HD.out hjl hql] at hjq
                  have r1 := HF.out p j hpl hjl
                  have r2 := HF.out j q hjl hql
                  have r10 := r1.1
                  have r11 := r1.2
                  have r20 := r2.1
                  have r21 := r2.2
                  have HX := Lib.hid ((hat.set hpl q (overF (starTo a j) j p q)).congr fun s t _ _ => mid_set _ _ _ _ _ _)
                  have HBX : Hid (Below w.heap.size w (wr.setCell ⟨B p, q, none⟩ (.int .i64 (overF (starTo a j) j p q)))) := hb.setCell (Nat.le_trans HS1.out (hat.row p hpl).1) _
                  clear hat hb hgc e r1 r2 e1
                  go_wp2_with fail
                  refine wp_region_quiet_tail 29 (by kernel_rfl) (by kernel_rfl) ?_
                  simp only [List.take_succ_cons, List.take_zero, List.drop_succ_cons, List.drop_zero]
                  repeat (go_big_quiet_step (fail))
                  refine wpQuiet_nil ?_
                  go_wp2_with fail
                  go_roundw
                  case rel => exact ⟨q + 1, by omega, by go_num, HX.out.drew, HBX.out.drew⟩
                  case measure => simp [intOf]; omega
                · have eq : q = r := by omega
                  subst eq
                  clear hat hb
                  go_wp2_with fail
                  go_roundw
                  case rel => exact ⟨p + 1, by omega, by go_num, HAT.out.congr fun s t _ ht => mid_next _ _ _ _ _ ht, HB.out⟩
                  case measure => simp [intOf]; omega
            · have ep : p = r := by omega
              subst ep
              go_wp2_with fail
              go_roundw
              case rel => exact ⟨j + 1, by omega, by go_num, HAT.out.congr fun s t hs _ => mid_end _ _ _ _ hs, HB.out⟩
              case measure => simp [intOf]; omega
        · have ej : j = r := by omega
          subst ej
          obtain ⟨g', cg', e, hM⟩ := HAT.out.tab.mat h1
          have eg : g = g' := by
            simp only [Value.slice.injEq, Option.some.injEq, Addr.mk.injEq] at e
            exact e.1.1
          subst eg
          have HM := Lib.hid hM
          clear hM e
          go_wp2_with fail
          go_ret2
          exact ⟨_, _, rfl, HM.out, HB.out⟩

end Go.Proofs.Ytekhafihmfkofaa

/- The walks of the reference's tables: TableFault, OneOf, MulOf, LeastOf, StarOf. -/
import Derived.Test.YtdilajieimbdnaaDoorRefCosts
import Derived.Test.YtdilajieimbdnaaDoorMatMul
import Derived.Test.YtdilajieimbdnaaDoorStarRef
import Derived.Test.YtdilajieimbdnaaDoorFarPlus
import Derived.Test.YtdilajieimbdnaaDoorWords
namespace Go.Proofs.YtdilajieimbdnaaDoor
open Go.RowKit
set_option linter.unusedVariables false

theorem Mat.none0 (w : World) : Mat w none 0 (fun _ => 0) (fun _ _ => 0) := fun j hj => absurd hj (by omega)

theorem costF_none (i k : Nat) : costF 0 (fun _ => 0) (fun _ => 0) (fun _ => 0) i k = oneF i k := (costF_zero _ _ _ i k).symm

theorem oneOf_walk (n : Nat) (x : Int) (hx : x = (n : Int)) (w : World) (h1 : 1 ≤ n) (h8 : n ≤ 8) :
    Calls Tryd.prog 50 #[.int .i64 x] w fun e w' => ∃ v, e = .returned v ∧ Tab w' w.heap.size v n n oneF ∧ Below w.heap.size w w' := by
  subst hx
  go_enter Tryd.func50, Tryd.ntmps50
  go_wp2_with fail
  have hcall := costsOf_walk n n rfl none 0 0 (fun _ => 0) (fun _ => 0) (fun _ => 0) w (fun j hj => absurd hj (by omega)) h1 h8 (by omega)
  refine hcall.mono ?_
  clear hcall
  rintro e w1 ⟨v, rfl, hT, hb⟩
  have HT : Hid (Tab w1 w.heap.size v n n oneF) := by
    obtain ⟨B, C, h1, h2, h3⟩ := hT
    exact ⟨B, C, h1, fun r hr => ⟨(h2 r hr).1, (h2 r hr).2.congrI fun j _ => costF_none r j⟩, h3⟩
  have HB := Lib.hid hb
  clear hT hb
  go_wp2_with fail
  go_ret
  exact ⟨_, rfl, HT.out, HB.out⟩

theorem oneF_ranged (n : Nat) : Ranged n oneF := fun i k _ _ => by
  unfold oneF
  split <;> omega

attribute [local go_sem high] run_min_pair

set_option maxRecDepth 100000 in
set_option maxHeartbeats 2000000 in
theorem mulOf_walk (A B : Option Addr) (n ca cb : Nat) (a b : Nat → Nat → Int) (w : World) (hA : Mat w A n (fun _ => n) a) (hB : Mat w B n (fun _ => n) b) (h1 : 1 ≤ n) (h8 : n ≤ 8) (ha : Ranged n a) (hb : Ranged n b) :
    Calls Tryd.prog 48 #[.slice A n ca, .slice B n cb] w fun e w' => ∃ v, e = .returned v ∧ Tab w' w.heap.size v n n (mulF n a b) ∧ Below w.heap.size w w' := by
  have h1' : (1 : Int) ≤ n := by omega
  have h8' : (n : Int) ≤ 8 := by omega
  obtain ⟨ad, rfl⟩ := hA.some_ h1
  obtain ⟨bd, rfl⟩ := hB.some_ h1
  have HA := Lib.hid hA
  have HM := Lib.hid hB
  have RA := Lib.hid ha
  have RB := Lib.hid hb
  clear hA hB ha hb
  go_enter Tryd.func48, Tryd.ntmps48
  go_wp2_with fail
  go_loopw [5, 6] (fun v i wr => ∃ r : Nat, r ≤ n ∧ i = .int .i64 r ∧ Tab wr w.heap.size v r n (mulF n a b) ∧ Below w.heap.size w wr) (fun _ i _ => n - (intOf i).toNat)
  case atStart => exact ⟨0, by omega, rfl, Tab.nil _ _ _ _, Below.refl _ _⟩
  case round =>
    obtain ⟨r, hr, rfl, hT, hb⟩ := hrel
    obtain ⟨wo, hwo⟩ : ∃ wo, wo = wr := ⟨_, rfl⟩
    subst hwo
    have HT := Lib.hid hT
    have HB := Lib.hid hb
    clear hT hb
    by_cases hlt : r < n
    · have hlt' : (r : Int) < n := by omega
      go_wp2_with fail
      go_loopw [7, 8] (fun v i wj => ∃ q : Nat, q ≤ n ∧ i = .int .i64 q ∧ OwnV wj wo.heap.size v q (mulF n a b r) ∧ Below wo.heap.size wo wj) (fun _ i _ => n - (intOf i).toNat)
      case atStart => exact ⟨0, by omega, rfl, OwnV.nil _ _ _, Below.refl _ _⟩
      case round =>
        obtain ⟨q, hq, rfl, hV, hbj⟩ := hrel
        obtain ⟨wi, hwi⟩ : ∃ wi, wi = wr := ⟨_, rfl⟩
        subst hwi
        have HV := Lib.hid hV
        have HBJ := Lib.hid hbj
        have HBW := Lib.hid (keep HB.out hbj)
        clear hV hbj
        by_cases hqn : q < n
        · have hqn' : (q : Int) < n := by omega
          go_wp2_with fail
          go_loopw [9, 10] (fun v i wk => ∃ p : Nat, p ≤ n ∧ i = .int .i64 p ∧ (∃ z, v = .int .i64 z ∧ Hid (minTo p (fun j => a r j + b j q) = z) ∧ z ≤ 16) ∧ ∃ N, wk = wi.drewN N) (fun _ i _ => n - (intOf i).toNat)
          case atStart => exact ⟨0, by omega, rfl, ⟨16, rfl, Lib.hid rfl, by omega⟩, 0, rfl⟩
          case round =>
            obtain ⟨p, hp, rfl, ⟨z, rfl, hz, hz16⟩, N, rfl⟩ := hrel
            have HZ := hz
            clear hz
            by_cases hpn : p < n
            · have hpn' : (p : Int) < n := by omega
              obtain ⟨Ai, ci, hc1, hc2⟩ := Mat.at_ h1 (HA.out.keep HBW.out) hlt hpn
              obtain ⟨Bi, di, hd1, hd2⟩ := Mat.at_ h1 (HM.out.keep HBW.out) hpn hqn
              have hra := RA.out r p hlt hpn
              have hrb := RB.out p q hpn hqn
              obtain ⟨u, hu⟩ : ∃ u, a r p = u := ⟨_, rfl⟩
              obtain ⟨v, hv⟩ : ∃ v, b p q = v := ⟨_, rfl⟩
              rw [hu] at hc2 hra
              rw [hv] at hd2 hrb
              obtain ⟨hu0, hu1⟩ := hra
              obtain ⟨hv0, hv1⟩ := hrb
              have HZ1 : Hid (minTo (p + 1) (fun j => a r j + b j q) = min z (min (u + v) 16)) := by
                show min (minTo p (fun j => a r j + b j q)) (a r p + b p q) = _
                rw [HZ.out, hu, hv]
                omega
              clear hu hv
              go_wp2_with fail
              go_quiet ((go_at_call 62; exact quiet_adds ((plus_walk u v _ hu0 hu1 hv0 hv1).mono fun _ _ h => ⟨h.1, 0, h.2⟩)))
              go_wp2_with fail
              go_roundw
              case rel => exact ⟨p + 1, by omega, by go_num, ⟨_, rfl, HZ1, by omega⟩, _, rfl⟩
              case measure => simp [intOf]; omega
            · obtain rfl : n = p := by omega
              clear hpn hp
              go_wp2_with (at_builtin; refine wpList_append_int rfl (.tmp 46) (.tmp 48) rfl wo.heap.size _ q _ rfl ((HV.out.alloc _).drewN N) z ⟨wi.heap.size, 0, none⟩ rfl (cell_new_at wi _ _ rfl) (by omega) (by have := HBJ.out.size; simp; omega) ?_)
              intro g cap w6 hV6 hb6 _ _
              have HV6 := Lib.hid (hV6.congr (f' := mulF n a b r) fun j hj => by
                unfold upd
                by_cases e : j = q
                · rw [if_pos e, e]; exact HZ.out.symm
                · rw [if_neg e])
              have HB6 := Lib.hid (Below.trans (below_drewN (HBJ.out.alloc HBJ.out.size _) N) hb6)
              clear hV6 hb6
              go_wp2_with fail
              go_roundw
              case rel => exact ⟨q + 1, by omega, by go_num, HV6.out, HB6.out⟩
              case measure => simp [intOf]; omega
        · obtain rfl : n = q := by omega
          obtain ⟨g, cg, rfl, hg, hrow⟩ := HV.out.row h1
          have HG := Lib.hid hg
          have HROW := Lib.hid hrow
          clear hg hrow hqn hq
          go_wp2_with (at_builtin; refine wpList_append_tab rfl (.tmp 50) (.tmp 52) rfl wo w.heap.size _ r n (mulF n a b) rfl HT.out (HBJ.out.alloc HBJ.out.size _) g cg HG.out (HROW.out.alloc _) _ rfl (cell_new_at _ _ _ rfl) (by omega) HB.out.size ?_)
          intro v2 w2 hT2 hb2
          have HT2 := Lib.hid hT2
          have HB2 : Hid (Below w.heap.size w w2) := (HB.out.trans (((HBJ.out.alloc HBJ.out.size _).mono HB.out.size))).trans hb2
          clear hT2 hb2
          go_wp2_with fail
          go_roundw
          case rel => exact ⟨r + 1, by omega, by go_num, HT2.out, HB2.out⟩
          case measure => simp [intOf]; omega
    · obtain rfl : n = r := by omega
      clear hlt hr
      go_wp2_with fail
      go_ret
      exact ⟨_, rfl, HT.out, HB.out⟩

end Go.Proofs.YtdilajieimbdnaaDoor

/- PickTells: the order of hops and the one that is picked are what the document's answer tells; any flow, any hops. For all arguments; no condition. -/
import Derived.Test.YtfdldjlaedfllaaDoorPickRef
import Derived.Test.YtfdldjlaedfllaaDoorInts
import Derived.Test.YtfdldjlaedfllaaDoorErr
namespace Go.Proofs.YtfdldjlaedfllaaDoor
open Go.RowKit
set_option linter.unusedVariables false

set_option maxRecDepth 100000 in
set_option maxHeartbeats 4000000 in
theorem pickTells_walk (fl : Int) (A : Option Addr) (n c : Nat) (f : Nat → Int) (w : World) (hET : ErrT w) (hV : Vec w A n f) (hnc : n ≤ c) (hcm : c ≤ maxLen) (hnil : A = none → c = 0) (hreach : n * 8 ≤ 140737488351232) :
    Calls Tryd.prog 4 #[.int .i64 fl, .slice A n c] w fun e w' => e = .returned (.bool true) ∧ Below w.heap.size w w' := by
  have HV := Lib.hid hV
  have HN := Lib.hid hnil
  have HR := Lib.hid hreach
  have HC := Lib.hid hnc
  have HM := Lib.hid hcm
  have HE := Lib.hid hET
  clear hV hnil hreach hnc hcm hET
  go_enter Tryd.func4, Tryd.ntmps4
  go_wp2_with fail
  refine (pick_fact w).mono ?_
  rintro e w1 ⟨rfl, hb1⟩
  have HB1 := Lib.hid hb1
  have HV1 := Lib.hid (HV.out.keep hb1)
  clear hb1
  go_wp2_with fail
  by_cases hO : OnceV n f
  · refine (once_walk A n c f w1 HV1.out (by have := HR.out; omega) HC.out true ⟨fun _ => hO, fun _ => rfl⟩).mono ?_
    rintro e w2 ⟨rfl, k, h2⟩
    subst w2
    have HB2 := Lib.hid (below_drewN HB1.out k)
    have HV2 := Lib.hid (HV1.out.drewN k)
    clear HB1 HV1
    obtain ⟨w2, hw2⟩ : ∃ w2, w1.drewN k = w2 := ⟨_, rfl⟩
    rw [hw2] at HB2 HV2 ⊢
    clear hw2
    have hcall := refOrder_walk fl A n c f w2 HV2.out (by have := HR.out; omega) hO
    have HCa := Lib.hid hcall
    have HO := Lib.hid hO
    clear hcall hO
    go_wp2_with fail
    refine HCa.out.mono ?_
    rintro e w3 ⟨g, rfl, hv3, hb3⟩
    have HB3 := Lib.hid (keep HB2.out hb3)
    have HV3 := Lib.hid (HV2.out.keep hb3)
    have HW3 := Lib.hid hv3
    clear hb3 hv3 HCa
    have hcall := order_ok fl A n c f w3 HV3.out HC.out HN.out (by have := HR.out; omega) HM.out HO.out
    have HCa := Lib.hid hcall
    clear hcall
    go_wp2_with fail
    refine HCa.out.mono ?_
    rintro e w4 ⟨A', c', rfl, hc', hv4, hb4⟩
    have HB4 := Lib.hid (keep HB3.out hb4)
    have HV4 := Lib.hid (HV3.out.keep hb4)
    have HW4 := Lib.hid (HW3.out.keep hb4)
    have HX4 := Lib.hid hv4
    clear hb4 hv4 hc' HCa
    go_wp2_with fail
    refine (err_nil 0 true ⟨fun _ => rfl, fun _ => rfl⟩ w4).mono ?_
    rintro e w5 ⟨rfl, hb5⟩
    have HB5 := Lib.hid (keep HB4.out hb5)
    have HV5 := Lib.hid (HV4.out.keep hb5)
    have HW5 := Lib.hid (HW4.out.keep hb5)
    have HX5 := Lib.hid (HX4.out.keep hb5)
    clear hb5
    go_wp2_with fail
    refine (ints_walk A' (some ⟨g, 0, none⟩) n n c' n (hopsF fl n f) (hopsF fl n f) w5 HX5.out HW5.out (by have := HR.out; omega) (by have := HR.out; omega) true ⟨fun _ => ⟨rfl, fun _ _ => rfl⟩, fun _ => rfl⟩).mono ?_
    rintro e w6 ⟨rfl, q, h6⟩
    subst w6
    have HB6 := Lib.hid (below_drewN HB5.out q)
    have HV6 := Lib.hid (HV5.out.drewN q)
    have HW6 := Lib.hid (HW5.out.drewN q)
    clear HB2 HV2 HB3 HV3 HW3 HB4 HV4 HW4 HX4 HB5 HV5 HW5 HX5
    obtain ⟨w6, hw6⟩ : ∃ w6, w5.drewN q = w6 := ⟨_, rfl⟩
    rw [hw6] at HB6 HV6 HW6 ⊢
    clear hw6
    rcases Nat.eq_zero_or_pos n with h0 | h0
    · subst h0
      have hcall := pick_none fl A c f w6 HN.out HM.out
      have HCa := Lib.hid hcall
      clear hcall
      go_wp2_with fail
      refine HCa.out.mono ?_
      rintro e w7 ⟨rfl, hb7⟩
      have HB7 := Lib.hid (keep HB6.out hb7)
      clear hb7
      go_wp2_with fail
      refine (err_no 2 2 true ⟨fun _ => rfl, fun _ => rfl⟩ w7 (HE.out.keep HB7.out)).mono ?_
      rintro e w8 ⟨rfl, hb8⟩
      have HB8 := Lib.hid (keep HB7.out hb8)
      clear hb8
      go_wp2_with fail
      go_ret
      exact ⟨rfl, HB8.out⟩
    · have hcall := pick_ok fl A n c f w6 HV6.out HC.out HN.out (by have := HR.out; omega) HM.out HO.out h0
      have HCa := Lib.hid hcall
      obtain ⟨ad, e0, -, hc0⟩ := HW6.out 0 h0
      cases e0
      have hc0' : w6.cell? ⟨g, 0, none⟩ = some (.int .i64 (hopsF fl n f 0)) := by rw [Addr.add_zero'] at hc0; exact hc0
      obtain ⟨x, hx⟩ : ∃ x, hopsF fl n f 0 = x := ⟨_, rfl⟩
      rw [hx] at hc0' HCa
      have hn0 : (0 : Int) < n := by omega
      have hne : ((n : Int) == 0) = false := by simp; omega
      clear hcall hc0 hx
      go_wp2_with fail
      refine HCa.out.mono ?_
      rintro e w7 ⟨rfl, hb7⟩
      have HB7 := Lib.hid (keep HB6.out hb7)
      clear hb7
      go_wp2_with fail
      refine (err_nil 0 true ⟨fun _ => rfl, fun _ => rfl⟩ w7).mono ?_
      rintro e w8 ⟨rfl, hb8⟩
      have HB8 := Lib.hid (keep HB7.out hb8)
      clear hb8
      go_wp2_with fail
      go_ret
      exact ⟨rfl, HB8.out⟩
  · refine (once_walk A n c f w1 HV1.out (by have := HR.out; omega) HC.out false ⟨fun h => (by cases h), fun h => absurd h hO⟩).mono ?_
    rintro e w2 ⟨rfl, k, h2⟩
    subst w2
    have HB2 := Lib.hid (below_drewN HB1.out k)
    have HV2 := Lib.hid (HV1.out.drewN k)
    clear HB1 HV1
    obtain ⟨w2, hw2⟩ : ∃ w2, w1.drewN k = w2 := ⟨_, rfl⟩
    rw [hw2] at HB2 HV2 ⊢
    clear hw2
    have hcall := order_bad fl A n c f w2 HV2.out HC.out HN.out (by have := HR.out; omega) HM.out hO
    have HCa := Lib.hid hcall
    have HO := Lib.hid hO
    clear hcall hO
    go_wp2_with fail
    refine HCa.out.mono ?_
    rintro e w3 ⟨rfl, hb3⟩
    have HB3 := Lib.hid (keep HB2.out hb3)
    have HV3 := Lib.hid (HV2.out.keep hb3)
    clear hb3 HCa
    go_wp2_with fail
    refine (err_no 5 5 true ⟨fun _ => rfl, fun _ => rfl⟩ w3 (HE.out.keep HB3.out)).mono ?_
    rintro e w4 ⟨rfl, hb4⟩
    have HB4 := Lib.hid (keep HB3.out hb4)
    have HV4 := Lib.hid (HV3.out.keep hb4)
    clear hb4
    go_wp2_with fail
    refine (ints_walk none none 0 0 0 0 (fun _ => 0) (fun _ => 0) w4 (fun j hj => absurd hj (by omega)) (fun j hj => absurd hj (by omega)) (by omega) (by omega) true ⟨fun _ => ⟨rfl, fun _ _ => rfl⟩, fun _ => rfl⟩).mono ?_
    rintro e w5 ⟨rfl, q, h5⟩
    subst w5
    have HB5 := Lib.hid (below_drewN HB4.out q)
    have HV5 := Lib.hid (HV4.out.drewN q)
    clear HB2 HV2 HB3 HV3 HB4 HV4
    obtain ⟨w5, hw5⟩ : ∃ w5, w4.drewN q = w5 := ⟨_, rfl⟩
    rw [hw5] at HB5 HV5 ⊢
    clear hw5
    have hcall := pick_bad fl A n c f w5 HV5.out HC.out HN.out (by have := HR.out; omega) HM.out HO.out
    have HCa := Lib.hid hcall
    clear hcall
    go_wp2_with fail
    refine HCa.out.mono ?_
    rintro e w6 ⟨rfl, hb6⟩
    have HB6 := Lib.hid (keep HB5.out hb6)
    clear hb6 HCa
    go_wp2_with fail
    refine (err_no 5 5 true ⟨fun _ => rfl, fun _ => rfl⟩ w6 (HE.out.keep HB6.out)).mono ?_
    rintro e w7 ⟨rfl, hb7⟩
    have HB7 := Lib.hid (keep HB6.out hb7)
    clear hb7
    go_wp2_with fail
    go_ret
    exact ⟨rfl, HB7.out⟩

end Go.Proofs.YtfdldjlaedfllaaDoor

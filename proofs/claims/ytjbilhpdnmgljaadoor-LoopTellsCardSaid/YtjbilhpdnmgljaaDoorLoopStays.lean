/- LoopStays: the walk. -/
import Derived.Test.YtjbilhpdnmgljaaDoorLooped
import Derived.Test.YtjbilhpdnmgljaaDoorIn
import Derived.Test.YtjbilhpdnmgljaaDoorErr
namespace Go.Proofs.YtjbilhpdnmgljaaDoor
open Go.RowKit
set_option linter.unusedVariables false

/-- What the list of loops is. -/
structure ListL (n : Nat) (s : Nat → Int) (m : Nat) (f : Nat → Int) : Prop where
  at_ : ∀ k, k < m → ∃ v a : Nat, f k = v ∧ v < n ∧ s v = a ∧ a < n ∧ ∃ j, j < m ∧ f j = a
  prev : ∀ k, k < m → ∃ j, j < m ∧ ∀ r, r < m → (∃ u : Nat, f r = u ∧ u < n ∧ ((s u = f k) ↔ r = j))
  has : ∀ i, i < n → 0 ≤ itN s i n → ∃ j, j < m ∧ f j = itN s i n

theorem ListL.of {n : Nat} {s : Nat → Int} (hs : OkN n s) {p : Nat → Bool} (hp : ∀ v, v < n → (p v = true ↔ OnC s v)) : ListL n s (pickL p n).length (atL (pickL p n)) := by
  refine ⟨fun k hk => ?_, fun k hk => ?_, fun i hi h => ?_⟩
  · obtain ⟨v, e, hv, hpv⟩ := pickL_at hk
    obtain ⟨a, ea, ha, hc⟩ := ((hp v hv).1 hpv).next hs hv
    exact ⟨v, a, e, hv, ea, ha, pickL_has ha ((hp a ha).2 hc)⟩
  · obtain ⟨v, e, hv, hpv⟩ := pickL_at hk
    obtain ⟨u, hu, hcu, eu⟩ := ((hp v hv).1 hpv).prev hs hv
    obtain ⟨j, hj, ej⟩ := pickL_has hu ((hp u hu).2 hcu)
    refine ⟨j, hj, fun r hr => ?_⟩
    obtain ⟨u', e', hu', hpu'⟩ := pickL_at hr
    refine ⟨u', e', hu', ?_⟩
    rw [e]
    constructor
    · intro h
      have := OnC.prev_one ((hp u' hu').1 hpu') hcu h eu
      subst this
      exact pickL_once hr hj (e'.trans ej.symm)
    · rintro rfl
      have : u' = u := by omega
      subst this
      exact eu
  · obtain ⟨a, ea, ha, hc⟩ := never_on hs hi h
    obtain ⟨j, hj, ej⟩ := pickL_has ha ((hp a ha).2 hc)
    exact ⟨j, hj, ej.trans ea.symm⟩

theorem never_pos {n : Nat} {s : Nat → Int} {i : Nat} (h : 0 ≤ itN s i n) : ∀ j, j < n + 1 → 0 ≤ itN s i j := fun k hk => by
  refine Classical.byContradiction fun hn => ?_
  have := itN_neg (s := s) (i := i) (k := k) (by omega) (n - k)
  rw [show k + (n - k) = n by omega] at this
  omega

set_option maxRecDepth 100000 in
set_option maxHeartbeats 4000000 in
theorem loopStays_walk (A : Option Addr) (n c : Nat) (s : Nat → Int) (x : Int) (w : World) (hg : ErrT w) (hA : Vec w A n s) (hn : n ≤ 17592186044416) :
    Calls Tryd.prog 9 #[.slice A n c, .int .i64 x] w fun e w' => e = .returned (.bool true) ∧ Below w.heap.size w w' := by
  have HA := Lib.hid hA
  have HG := Lib.hid hg
  have hn' : (n : Int) ≤ 17592186044416 := by omega
  clear hA hg
  go_enter Tryd.func9, Tryd.ntmps9
  go_wp2_with fail
  refine (looped_walk w).mono ?_
  rintro e w1 ⟨rfl, hb1⟩
  have HB1 := Lib.hid hb1
  clear hb1
  go_wp2_with fail
  by_cases hs : OkN n s
  · have HS := Lib.hid hs
    clear hs
    have hcall := loops_ok A n c s w1 (HA.out.keep HB1.out) hn HS.out (fun v => @decide (OnC s v) (Classical.propDecidable _)) (fun v _ => by simp)
    refine hcall.mono ?_
    clear hcall
    rintro e w2 ⟨v, rfl, hown, hb2⟩
    obtain ⟨B, cb, rfl, hV⟩ := hown.vec
    have HLL := Lib.hid (ListL.of HS.out (p := fun v => @decide (OnC s v) (Classical.propDecidable _)) (fun v _ => by simp))
    have hml := pickL_len (fun v => @decide (OnC s v) (Classical.propDecidable _)) n
    generalize (pickL (fun v => @decide (OnC s v) (Classical.propDecidable _)) n).length = m at hV HLL hml hown ⊢
    generalize atL (pickL (fun v => @decide (OnC s v) (Classical.propDecidable _)) n) = f at hV HLL hown
    have HV := Lib.hid hV
    have HB := Lib.hid (keep HB1.out hb2)
    have hm' : (m : Int) ≤ 17592186044416 := by omega
    clear hV hb2 HB1 hown
    go_wp2_with fail
    go_loopw [8] (fun i wr => ∃ k : Nat, k ≤ m ∧ i = .int .i64 k ∧ ∃ q, wr = w2.drewN q) (fun i _ => m - (intOf i).toNat)
    case atStart => exact ⟨0, by omega, rfl, 0, rfl⟩
    case round =>
      obtain ⟨k, hk, rfl, q, rfl⟩ := hrel
      by_cases hlt : k < m
      · have hlt' : (k : Int) < m := by omega
        obtain ⟨v, a, hfv, hvn, hsv, han, j, hj, ej⟩ := HLL.out.at_ k hlt
        obtain ⟨j0, hj0, hall⟩ := HLL.out.prev k hlt
        have HALL := Lib.hid hall
        have HFV := Lib.hid hfv
        obtain ⟨bd, rfl, hbl, hbc⟩ := (HV.out.drewN q) k hlt
        rw [hfv] at hbc
        obtain ⟨ad, rfl, hal, hac⟩ := ((HA.out.keep HB.out).drewN q) v hvn
        rw [hsv] at hac
        have HIN := Lib.hid ej
        have hvn' : (v : Int) < n := by omega
        clear hall hfv hsv ej hbl hal
        go_wp2_with fail
        refine (in_walk (some bd) m cb f a _ (HV.out.drewN q) (by omega) true ⟨fun _ => ⟨j, hj, HIN.out⟩, fun _ => rfl⟩).mono ?_
        rintro e w3 ⟨rfl, hw3⟩
        subst w3
        clear hbc hac
        go_wp2_with fail
        go_loopw [9, 10] (fun v9 v10 wr => ∃ (r : Nat) (z : Int), r ≤ m ∧ v10 = .int .i64 r ∧ v9 = .int .i64 z ∧ Hid (z = if j0 < r then 1 else 0) ∧ ∃ q, wr = w2.drewN q) (fun _ i _ => m - (intOf i).toNat)
        case atStart => exact ⟨0, 0, by omega, rfl, rfl, Lib.hid (by rw [if_neg (by omega)]), q, rfl⟩
        case round =>
          obtain ⟨r, z, hr, rfl, rfl, hz, q2, rfl⟩ := hrel
          have HZ := hz
          clear hz
          by_cases hrl : r < m
          · have hrl' : (r : Int) < m := by omega
            obtain ⟨u, hu, hun, hiff⟩ := HALL.out r hrl
            have HU := Lib.hid hu
            have HI := Lib.hid hiff
            obtain ⟨bd1, e1, hbl1, hbr⟩ := HV.out r hrl
            obtain ⟨bd2, e2, hbl2, hbk⟩ := HV.out k hlt
            injection e1 with e1
            subst e1
            injection e2 with e2
            subst e2
            rw [hu] at hbr
            rw [HFV.out] at hbk
            obtain ⟨ad1, e3, hal1, hau⟩ := (HA.out.keep HB.out) u hun
            injection e3 with e3
            subst e3
            have hun' : (u : Int) < n := by omega
            clear hu hiff hbl1 hbl2 hal1
            by_cases hrj : r = j0
            · have hsu : s u = v := (HI.out.2 hrj).trans HFV.out
              rw [hsu] at hau
              have hz0 : z = 0 := by rw [HZ.out, if_neg (by omega)]
              subst hz0
              have HZ1 : Hid ((1 : Int) = if j0 < r + 1 then 1 else 0) := Lib.hid (by rw [if_pos (by omega)])
              clear hrj hsu
              go_wp2_with fail
              go_quiet (fail)
              go_wp2_with fail
              go_roundw
              case rel => exact ⟨r + 1, 1, by omega, by go_num, rfl, HZ1, _, rfl⟩
              case measure => simp [intOf]; omega
            · have hne : (s u == (v : Int)) = false := beq_false_of_ne fun e => hrj (HI.out.1 (e.trans HFV.out.symm))
              have HZ1 : Hid (z = if j0 < r + 1 then 1 else 0) := by
                refine Lib.hid ?_
                rw [HZ.out]
                by_cases h : j0 < r
                · rw [if_pos h, if_pos (by omega)]
                · rw [if_neg h, if_neg (by omega)]
              clear hrj
              go_wp2_with fail
              go_quiet (fail)
              go_wp2_with fail
              go_roundw
              case rel => exact ⟨r + 1, z, by omega, by go_num, rfl, HZ1, _, rfl⟩
              case measure => simp [intOf]; omega
          · obtain rfl : r = m := by omega
            have hz1 : z = 1 := by rw [HZ.out, if_pos hj0]
            subst hz1
            go_wp2_with fail
            go_roundw
            case rel => exact ⟨k + 1, by omega, by go_num, q2, rfl⟩
            case measure => simp [intOf]; omega
      · obtain rfl : k = m := by omega
        have HBq : Hid (Below w.heap.size w (w2.drewN q)) := below_drewN HB.out q
        by_cases hx : 0 ≤ x ∧ x < n
        · obtain ⟨i, rfl⟩ : ∃ i : Nat, x = i := ⟨x.toNat, by omega⟩
          have hi : i < n := by omega
          have hi' : (i : Int) < n := by omega
          clear hx
          by_cases hz : itN s i n < 0
          · obtain ⟨d, hd, hneg, hpos⟩ := deep_least hz
            have hcall := deep_to A n c i i rfl s _ (HA.out.keep HBq.out) hn HS.out hi d hpos _ (.inl ⟨hd, hneg, rfl⟩)
            have HZ := Lib.hid hz
            clear hz hneg hpos
            go_wp2_with fail
            refine hcall.mono ?_
            clear hcall
            rintro e w3 ⟨rfl, hw3⟩
            subst w3
            go_wp2_with fail
            refine (err_nil 2 false ⟨(fun h => by cases h), fun h => by omega⟩ _).mono ?_
            rintro e w4 ⟨rfl, hb4⟩
            have HB4 := Lib.hid (keep HBq.out hb4)
            clear hb4
            go_wp2_with fail
            refine (steps_walk A n c i n i n rfl rfl s w4 (HA.out.keep HB4.out) hn hn HS.out hi).mono ?_
            rintro e w5 ⟨rfl, hw5⟩
            subst w5
            have hd0 : decide (0 ≤ itN s i n) = false := decide_eq_false (by have := HZ.out; omega)
            go_wp2_with fail
            go_ret
            exact ⟨rfl, HB4.out⟩
          · have hz0 : 0 ≤ itN s i n := by omega
            obtain ⟨j, hj, ej⟩ := HLL.out.has i hi hz0
            have hcall := deep_to A n c i i rfl s _ (HA.out.keep HBq.out) hn HS.out hi (n + 1) (never_pos hz0) _ (.inr ⟨rfl, rfl⟩)
            have HJ := Lib.hid ej
            clear hz ej
            go_wp2_with fail
            refine hcall.mono ?_
            clear hcall
            rintro e w3 ⟨rfl, hw3⟩
            subst w3
            go_wp2_with fail
            refine (err_no 2 2 true ⟨fun _ => rfl, fun _ => rfl⟩ _ (HG.out.keep HBq.out)).mono ?_
            rintro e w4 ⟨rfl, hb4⟩
            have HB4 := Lib.hid (keep HBq.out hb4)
            have HV4 := Lib.hid ((HV.out.drewN q).keep hb4)
            clear hb4
            go_wp2_with fail
            refine (steps_walk A n c i n i n rfl rfl s w4 (HA.out.keep HB4.out) hn hn HS.out hi).mono ?_
            rintro e w5 ⟨rfl, hw5⟩
            subst w5
            have hd0 : decide (0 ≤ itN s i n) = true := decide_eq_true hz0
            go_wp2_with fail
            refine (in_walk B k cb f (itN s i n) _ HV4.out (by omega) true ⟨fun _ => ⟨j, hj, HJ.out⟩, fun _ => rfl⟩).mono ?_
            rintro e w6 ⟨rfl, hw6⟩
            subst w6
            go_wp2_with fail
            go_ret
            exact ⟨rfl, HB4.out⟩
        · rcases (show x < 0 ∨ (0 ≤ x ∧ (n : Int) ≤ x) by omega) with h | ⟨h0, h1⟩
          · clear hx
            go_wp2_with fail
            go_ret
            exact ⟨rfl, HBq.out⟩
          · clear hx
            go_wp2_with fail
            go_ret
            exact ⟨rfl, HBq.out⟩
  · have HS := Lib.hid hs
    clear hs
    have hcall := loops_bad A n c s w1 (HA.out.keep HB1.out) (by omega) HS.out
    refine hcall.mono ?_
    clear hcall
    rintro e w2 ⟨rfl, hw2⟩
    subst w2
    go_wp2_with fail
    go_ret
    exact ⟨rfl, HB1.out⟩

end Go.Proofs.YtjbilhpdnmgljaaDoor

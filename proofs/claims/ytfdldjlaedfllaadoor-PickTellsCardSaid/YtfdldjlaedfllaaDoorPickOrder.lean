/- pick.Order: the walk. -/
import Derived.Test.YtfdldjlaedfllaaDoorPickFun
import Derived.Test.YtfdldjlaedfllaaDoorPickHas
import Derived.Test.YtfdldjlaedfllaaDoorPickWalk
import Derived.Test.YtfdldjlaedfllaaDoorPickLaw
namespace Go.Proofs.YtfdldjlaedfllaaDoor
open Go.RowKit
set_option linter.unusedVariables false

theorem once_no {n i j : Nat} {f : Nat → Int} (hi : i < n) (hj : j < i) (h : f j = f i) : ¬ OnceV n f := fun ho => ho i hi j hj h

set_option maxRecDepth 100000 in
set_option maxHeartbeats 4000000 in
theorem order_walk (fl : Int) (A : Option Addr) (n c : Nat) (f : Nat → Int) (w : World) (hV : Vec w A n f) (hnc : n ≤ c) (hnil : A = none → c = 0) (hreach : n * 8 ≤ 140737488355328) (hcm : c ≤ maxLen) :
    Calls Tryd.prog 18 #[.int .i64 fl, .slice A n c] w fun e w' => Below w.heap.size w w' ∧
      ((OnceV n f ∧ ∃ A' c', e = .returned (.tuple #[.slice A' n c', .nilIface]) ∧ n ≤ c' ∧ Vec w' A' n (atL (hopsL fl ((List.range n).map f)))) ∨ (¬ OnceV n f ∧ e = .returned (.tuple #[.slice none 0 0, errNo 5]))) := by
  have HV := Lib.hid hV
  have HN := Lib.hid hnil
  have HR := Lib.hid hreach
  have hnm : n ≤ 9223372036854775807 := by omega
  clear hV hnil hreach
  go_enter Tryd.func18, Tryd.ntmps18
  go_wp2_with fail
  go_loopw [10] (fun q wr => ∃ i : Nat, i ≤ n ∧ q = .int .i64 i ∧ Hid (OnceV i f) ∧ wr = w.alloc (.cells #[.int .i64 fl] 3)) (fun q _ => n - (intOf q).toNat)
  case atStart => exact ⟨0, by omega, rfl, Lib.hid fun i hi => absurd hi (by omega), rfl⟩
  case round =>
    obtain ⟨i, hi, rfl, HO, hwr⟩ := hrel
    subst hwr
    by_cases hlt : i < n
    · have hlt' : (i : Int) < n := by omega
      have hic : (i : Int) ≤ c := by omega
      have hic2 : i ≤ c := by omega
      obtain ⟨ad, rfl, hab, hc⟩ := (HV.out.keep ((Below.refl _ _).alloc (Nat.le_refl _) (.cells #[.int .i64 fl] 3))) i hlt
      clear hab
      obtain ⟨u, hu⟩ : ∃ u, f i = u := ⟨_, rfl⟩
      rw [hu] at hc
      have HU := Lib.hid hu
      clear hu
      have hcall := contains_walk (some ad) i c f u (w.alloc (.cells #[.int .i64 fl] 3)) (fun j hj => (HV.out.keep ((Below.refl _ _).alloc (Nat.le_refl _) (.cells #[.int .i64 fl] 3))) j (by omega)) (by omega)
      have HC := Lib.hid hcall
      clear hcall
      go_wp2_with fail
      refine HC.out.mono ?_
      rintro e w1 ⟨b, rfl, hb, h1⟩
      subst w1
      have HB := Lib.hid hb
      clear hb HC
      cases b
      · have HO1 : Hid (OnceV (i + 1) f) := fun r hr j hj => by
          rcases Nat.lt_or_ge r i with h | h
          · exact HO.out r h j hj
          · obtain rfl : r = i := by omega
            intro h
            have := HB.out.2 ⟨j, hj, h.trans HU.out⟩
            cases this
        go_wp2_with fail
        go_roundw
        case rel => exact ⟨i + 1, by omega, by go_num, HO1, trivial⟩
        case measure => simp [intOf]; omega
      · have HX := Lib.hid (HB.out.1 rfl)
        go_wp2_with fail
        go_ret2
        refine ⟨(Below.refl _ _).alloc (Nat.le_refl _) _, .inr ⟨?_, rfl⟩⟩
        obtain ⟨j, hj, h⟩ := HX.out
        exact once_no hlt hj (h.trans HU.out.symm)
    · have ei : i = n := by omega
      subst ei
      go_wp2_with fail
      refine ((callsIn_wide (n := 4)).1 (Vals.values_in Fence.wide 4 trivial rfl A i c _)).mono ?_
      rintro e1 w1 ⟨rfl, h1⟩
      subst w1
      have hb0 : Below w.heap.size w ((w.alloc (.cells #[.int .i64 fl] 3)).alloc (.cells #[.slice A i c] 22)) := ((Below.refl w.heap.size w).alloc (Nat.le_refl _) (.cells #[.int .i64 fl] 3)).alloc ((Below.refl w.heap.size w).alloc (Nat.le_refl _) (.cells #[.int .i64 fl] 3)).size _
      have hV2 := HV.out.keep hb0
      have hcall := sorted_walk w.heap.size (w.alloc (.cells #[.int .i64 fl] 3)).heap.size fl (.slice A i c) ((List.range i).map f) ((w.alloc (.cells #[.int .i64 fl] 3)).alloc (.cells #[.slice A i c] 22))
        ((Blk.alloc (Blk.new w _ _) _).cell 0) (by rw [List.length_map, List.length_range]; have := HR.out; omega) ((Blk.new _ _ _).cell 0) (by
          by_cases hA : A = none
          · subst hA
            have := HN.out rfl
            left
            have e1 : i = 0 := by omega
            subst e1
            exact ⟨by rw [this], rfl⟩
          · obtain ⟨ad, rfl⟩ := Option.ne_none_iff_exists'.1 hA
            refine .inr ⟨ad, c, by simp, fun h => ?_, fun j hj => ?_⟩
            · obtain ⟨ad', h1, h2, -⟩ := hV2 0 (by simpa using h)
              injection h1 with h1
              subst h1
              exact h2
            · obtain ⟨ad', h1, -, h2⟩ := hV2 j (by simpa using hj)
              injection h1 with h1
              subst h1
              have hj' : j < i := by simpa using hj
              simpa [hj'] using h2)
      have HB0 := Lib.hid hb0
      clear hb0 hV2
      rw [List.length_map, List.length_range, World.size_alloc] at hcall
      have HC := Lib.hid hcall
      clear hcall hi hlt hcm hnm hnc
      go_wp2_with fail
      refine HC.out.mono ?_
      rintro e w2 ⟨A', c', rfl, hc', hv', hb'⟩
      have HV' := Lib.hid hv'
      have HB' := Lib.hid hb'
      clear hv' hb' HC
      go_wp2_with fail
      go_ret2
      exact ⟨keep HB0.out HB'.out, .inl ⟨HO.out, _, _, rfl, hc', HV'.out⟩⟩

end Go.Proofs.YtfdldjlaedfllaaDoor

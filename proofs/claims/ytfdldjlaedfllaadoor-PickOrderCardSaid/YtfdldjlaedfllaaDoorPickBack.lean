/- PickOrder: in whatever order hops are told the same one is picked; all of them are in the order, each once. For all arguments; no condition. -/
import Derived.Test.YtfdldjlaedfllaaDoorPickPick
import Derived.Test.YtfdldjlaedfllaaDoorOwnL
import Derived.Test.YtfdldjlaedfllaaDoorIn
import Derived.Test.YtfdldjlaedfllaaDoorInts
import Derived.Test.YtfdldjlaedfllaaDoorErr
namespace Go.Proofs.YtfdldjlaedfllaaDoor
open Go.RowKit
set_option linter.unusedVariables false

set_option maxRecDepth 100000 in
set_option maxHeartbeats 1000000 in
theorem toldTwo_nil (w : World) : Calls Tryd.prog 19 #[.nilIface, .nilIface] w fun e w' => e = .returned (.bool true) ∧ w' = w := by
  go_enter Tryd.func19, Tryd.ntmps19
  go_wp2_with fail
  refine (told_nil w).mono ?_
  rintro e w2 ⟨rfl, h2⟩
  subst w2
  go_wp2_with fail
  refine (told_nil w).mono ?_
  rintro e w2 ⟨rfl, h2⟩
  subst w2
  go_wp2_with fail
  go_ret
  exact ⟨rfl, rfl⟩

set_option maxRecDepth 100000 in
set_option maxHeartbeats 1000000 in
theorem toldTwo_no (k : Int) (w : World) (hg : ErrT w) : Calls Tryd.prog 19 #[errNo k, errNo k] w fun e w' => e = .returned (.bool true) ∧ Below w.heap.size w w' := by
  have HG := Lib.hid hg
  clear hg
  go_enter Tryd.func19, Tryd.ntmps19
  go_wp2_with fail
  refine (told_no k w HG.out).mono ?_
  rintro e w2 ⟨rfl, hb⟩
  have HB := Lib.hid hb
  have HG2 := Lib.hid (HG.out.keep hb)
  clear hb
  go_wp2_with fail
  refine (told_no k w2 HG2.out).mono ?_
  rintro e w3 ⟨rfl, hb⟩
  have HB2 := Lib.hid (keep HB.out hb)
  clear hb
  go_wp2_with fail
  go_ret
  exact ⟨rfl, HB2.out⟩

/-- The hops, the last one first. -/
def backF (n : Nat) (f : Nat → Int) (j : Nat) : Int := f (n - 1 - j)

theorem back_perm (n : Nat) (f : Nat → Int) : ((List.range n).map (backF n f)).Perm ((List.range n).map f) := by
  have h : (List.range n).map (backF n f) = ((List.range n).map f).reverse := by
    apply List.ext_getElem?
    intro i
    rcases Nat.lt_or_ge i n with h | h
    · rw [List.getElem?_reverse (by simpa using h), List.getElem?_map, List.getElem?_map, List.length_map, List.length_range, List.getElem?_range h, List.getElem?_range (by omega)]
      rfl
    · rw [List.getElem?_eq_none (by simpa using h), List.getElem?_eq_none (by simpa using h)]
  rw [h]
  exact List.reverse_perm _

theorem onceN_range {n : Nat} {f : Nat → Int} : OnceV n f ↔ ((List.range n).map f).Nodup := by
  rw [← once_nodup]
  constructor
  · intro h i hi j hj
    have hi' : i < n := by simpa using hi
    rw [atL_range hi', atL_range (by omega)]
    exact h i hi' j hj
  · intro h i hi j hj
    have := h i (by simpa using hi) j hj
    rwa [atL_range hi, atL_range (by omega)] at this

theorem back_once (n : Nat) (f : Nat → Int) : OnceV n (backF n f) ↔ OnceV n f := by
  rw [onceN_range, onceN_range]
  exact (back_perm n f).nodup_iff

theorem back_hops (fl : Int) (n : Nat) (f : Nat → Int) : hopsF fl n (backF n f) = hopsF fl n f := by
  unfold hopsF
  rw [hopsL_of_perm (back_perm n f)]

theorem hops_once {fl : Int} {n : Nat} {f : Nat → Int} (h : OnceV n f) : OnceV n (hopsF fl n f) := by
  have h2 := once_nodup.2 (hopsL_nodup (fl := fl) (onceN_range.1 h))
  have hl : (hopsL fl ((List.range n).map f)).length = n := by simp [hopsL_length]
  rw [hl] at h2
  exact h2
theorem hops_all {fl : Int} {n : Nat} {f : Nat → Int} {i : Nat} (hi : i < n) : ∃ j, j < n ∧ hopsF fl n f j = f i := by
  have hl : (hopsL fl ((List.range n).map f)).length = n := by simp [hopsL_length]
  have := (atL_mem (l := hopsL fl ((List.range n).map f)) (z := f i)).2 (hopsL_mem.2 (List.mem_map.2 ⟨i, List.mem_range.2 hi, rfl⟩))
  rw [hl] at this
  exact this

set_option maxRecDepth 100000 in
set_option maxHeartbeats 4000000 in
theorem pickBack_walk (fl : Int) (A : Option Addr) (n c : Nat) (f : Nat → Int) (w : World) (hET : ErrT w) (hV : Vec w A n f) (hnc : n ≤ c) (hcm : c ≤ maxLen) (hnil : A = none → c = 0) (hreach : n * 8 ≤ 140737488351232) :
    Calls Tryd.prog 5 #[.int .i64 fl, .slice A n c] w fun e w' => e = .returned (.bool true) ∧ Below w.heap.size w w' := by
  have HV := Lib.hid hV
  have HN := Lib.hid hnil
  have HR := Lib.hid hreach
  have HC := Lib.hid hnc
  have HM := Lib.hid hcm
  have HE := Lib.hid hET
  have hn44 : (n : Int) ≤ 17592186044415 := by omega
  clear hV hnil hreach hnc hcm hET
  go_enter Tryd.func5, Tryd.ntmps5
  go_wp2_with fail
  refine (pick_fact w).mono ?_
  rintro e w1 ⟨rfl, hb1⟩
  have HB1 := Lib.hid hb1
  have HV1 := Lib.hid (HV.out.keep hb1)
  clear hb1
  go_wp2_with fail
  go_loopw [7, 8] (fun v q wr => ∃ r : Nat, r ≤ n ∧ q = .int .i64 ((r : Int) - 1) ∧ OwnV wr w1.heap.size v (n - r) (backF n f) ∧ Below w1.heap.size w1 wr) (fun _ q _ => (intOf q + 1).toNat)
  case atStart => exact ⟨n, by omega, rfl, by rw [Nat.sub_self]; exact OwnV.nil _ _ _, Below.refl _ _⟩
  case round =>
    obtain ⟨r, hr, rfl, hT, hb⟩ := hrel
    have HT := Lib.hid hT
    have HB := Lib.hid hb
    clear hT hb
    cases r with
    | succ s =>
      have es : ((s + 1 : Nat) : Int) - 1 = s := by omega
      rw [es]
      have hs0 : (0 : Int) ≤ s := by omega
      have hlt : s < n := by omega
      have hlt' : (s : Int) < n := by omega
      obtain ⟨ad, rfl, hab, hc⟩ := HV1.out s hlt
      replace hc := (HB.out.cell (p := ad.add s) (by rw [block_of_add]; exact hab)).trans hc
      clear hab es
      have hns : n - (s + 1) ≤ 17592186044415 := by omega
      have HK : Hid (n - (s + 1) + 1 = n - s) := Lib.hid (by omega)
      go_wp2_with (at_builtin; refine wpList_append_int rfl (.tmp 34) (.tmp 39) rfl w1.heap.size _ _ _ rfl (HT.out.alloc _) (f s) _ rfl (cell_new_at _ _ _ rfl) hns (by have := HB.out.size; simp; omega) ?_)
      intro g4 cap4 w4 hT4 hb4 _ _
      have HT4 : Hid (OwnV w4 w1.heap.size (.slice (some ⟨g4, 0, none⟩) (n - (s + 1) + 1) cap4) (n - s) (backF n f)) := by
        rw [← HK.out]
        refine OwnV.congr hT4 fun i hi => ?_
        unfold upd
        split
        · subst i
          unfold backF
          rw [show n - 1 - (n - (s + 1)) = s by omega]
        · rfl
      have HB4 : Hid (Below w1.heap.size w1 w4) := (HB.out.alloc HB.out.size _).trans hb4
      clear hT4 hb4 hc hns
      go_wp2_with fail
      go_roundw
      case rel => exact ⟨s, by omega, by go_num, HT4.out, HB4.out⟩
      case measure => simp [intOf]
    | zero =>
      have es : ((0 : Nat) : Int) - 1 = -1 := by omega
      rw [es]
      have HT' : Hid (OwnV wr w1.heap.size u7 n (backF n f)) := HT.out
      obtain ⟨A4, c4, e4, hv4, hnc4, hcm4, hnil4⟩ := HT'.out.parts
      subst e4
      have HV4 := Lib.hid hv4
      have HN4 := Lib.hid hnc4
      have HM4 := Lib.hid hcm4
      have HNil4 := Lib.hid hnil4
      have HVr := Lib.hid (HV1.out.keep (HB.out.mono (Nat.le_refl _)))
      have HWr := Lib.hid (keep HB1.out HB.out)
      clear hv4 hnc4 hcm4 hnil4 HT HT' es hr
      by_cases hO : OnceV n f
      · have hOb := (back_once n f).2 hO
        have hcall := order_ok fl A n c f wr HVr.out HC.out HN.out (by have := HR.out; omega) HM.out hO
        have HCa := Lib.hid hcall
        have HO := Lib.hid hO
        clear hcall hO
        go_wp2_with fail
        refine HCa.out.mono ?_
        rintro e w2 ⟨A', c', rfl, hc', hv', hb2⟩
        have HV2 := Lib.hid hv'
        have HC5 := Lib.hid hc'
        have HB2 := Lib.hid (keep HWr.out hb2)
        have HV42 := Lib.hid (HV4.out.keep hb2)
        have hcall := order_ok fl A4 n c4 (backF n f) w2 HV42.out HN4.out HNil4.out (by have := HR.out; omega) HM4.out hOb
        have HCb := Lib.hid hcall
        clear hcall hb2 HCa hv' hc' hOb
        go_wp2_with fail
        refine HCb.out.mono ?_
        rintro e w3 ⟨A'', c'', rfl, hc'', hv'', hb3⟩
        rw [back_hops] at hv''
        have HV3 := Lib.hid (HV2.out.keep hb3)
        have HV3b := Lib.hid hv''
        have HB3 := Lib.hid (keep HB2.out hb3)
        clear hb3 HCb hv'' hc''
        go_wp2_with fail
        refine (toldTwo_nil w3).mono ?_
        rintro e w4 ⟨rfl, h4⟩
        subst w4
        go_wp2_with fail
        refine (ints_walk A' A'' n n c' c'' (hopsF fl n f) (hopsF fl n f) w3 HV3.out HV3b.out (by have := HR.out; omega) (by have := HR.out; omega) true ⟨fun _ => ⟨rfl, fun _ _ => rfl⟩, fun _ => rfl⟩).mono ?_
        rintro e w4 ⟨rfl, q, h4⟩
        subst w4
        have HA5 := Lib.hid (HV3.out.drewN q)
        have HF5 := Lib.hid ((HV.out.keep HB3.out).drewN q)
        have HB5 := Lib.hid (below_drewN HB3.out q)
        clear HV2 HV42 HV3b HV3 HB3
        obtain ⟨w5, hw5⟩ : ∃ w5, w3.drewN q = w5 := ⟨_, rfl⟩
        rw [hw5] at HA5 HF5 HB5 ⊢
        clear hw5
        go_wp2_with fail
        go_loopw [15] (fun q wz => ∃ i : Nat, i ≤ n ∧ q = .int .i64 i ∧ wz = w5) (fun q _ => n - (intOf q).toNat)
        case atStart => exact ⟨0, by omega, rfl, rfl⟩
        case round =>
          obtain ⟨i, hi, rfl, hwz⟩ := hrel
          subst hwz
          by_cases hlt : i < n
          · have hlt' : (i : Int) < n := by omega
            obtain ⟨ad, rfl, hab, hc⟩ := HF5.out i hlt
            clear hab
            obtain ⟨x, hx⟩ : ∃ x, f i = x := ⟨_, rfl⟩
            have hex := hops_all (fl := fl) (f := f) hlt
            rw [hx] at hc hex
            have HX := Lib.hid hex
            clear hx hex
            go_wp2_with fail
            refine (in_walk A' n c' (hopsF fl n f) x _ HA5.out (by have := HR.out; omega) true ⟨fun _ => HX.out, fun _ => rfl⟩).mono ?_
            rintro e w6 ⟨rfl, h6⟩
            subst w6
            go_wp2_with fail
            go_roundw
            case rel => exact ⟨i + 1, by omega, by go_num, trivial⟩
            case measure => simp [intOf]; omega
          · have ei : n = i := by omega
            subst ei
            go_wp2_with fail
            refine (once_walk A' n c' (hopsF fl n f) _ HA5.out (by have := HR.out; omega) HC5.out true ⟨fun _ => hops_once HO.out, fun _ => rfl⟩).mono ?_
            rintro e w6 ⟨rfl, k6, h6⟩
            subst w6
            go_wp2_with fail
            go_ret
            exact ⟨rfl, below_drewN HB5.out k6⟩
      · have hOb : ¬ OnceV n (backF n f) := fun h => hO ((back_once n f).1 h)
        have hcall := order_bad fl A n c f wr HVr.out HC.out HN.out (by have := HR.out; omega) HM.out hO
        have HCa := Lib.hid hcall
        clear hcall hO
        go_wp2_with fail
        refine HCa.out.mono ?_
        rintro e w2 ⟨rfl, hb2⟩
        have HB2 := Lib.hid (keep HWr.out hb2)
        have HV42 := Lib.hid (HV4.out.keep hb2)
        have hcall := order_bad fl A4 n c4 (backF n f) w2 HV42.out HN4.out HNil4.out (by have := HR.out; omega) HM4.out hOb
        have HCb := Lib.hid hcall
        clear hcall hb2 HCa hOb
        go_wp2_with fail
        refine HCb.out.mono ?_
        rintro e w3 ⟨rfl, hb3⟩
        have HB3 := Lib.hid (keep HB2.out hb3)
        clear hb3 HCb
        go_wp2_with fail
        refine (toldTwo_no 5 w3 (HE.out.keep HB3.out)).mono ?_
        rintro e w4 ⟨rfl, hb4⟩
        have HB4 := Lib.hid (keep HB3.out hb4)
        clear hb4
        go_wp2_with fail
        refine (ints_walk none none 0 0 0 0 (fun _ => 0) (fun _ => 0) w4 (fun j hj => absurd hj (by omega)) (fun j hj => absurd hj (by omega)) (by omega) (by omega) true ⟨fun _ => ⟨rfl, fun _ _ => rfl⟩, fun _ => rfl⟩).mono ?_
        rintro e w5 ⟨rfl, q, h5⟩
        subst w5
        go_wp2_with fail
        go_ret
        exact ⟨rfl, below_drewN HB4.out q⟩

end Go.Proofs.YtfdldjlaedfllaaDoor

/- The net's next ones. -/
import Derived.Test.YtlemmphnmklbeaaLfiNear
namespace Go.Proofs.Ytlemmphnmklbeaa
open Go.RowKit
set_option linter.unusedVariables false

set_option maxRecDepth 100000 in
set_option maxHeartbeats 1000000 in
theorem lfiNexts' (lab : Nat → List Nat) (A : LAd) (n t : Nat) (s : LS) (i : Nat) (w : World) (h : LN w lab A n t s) (h8 : n ≤ 8) (hi : i < n) :
    Calls Try.prog 24 #[.pointer (some ⟨A.p, 0, none⟩), .int .i64 i] w fun e w' => ∃ v, e = .returned v ∧ OwnV w' w.heap.size v (s.nexts n t i).length (atL (s.nexts n t i)) ∧ Below w.heap.size w w' := by
  have HA := Lib.hid h
  obtain ⟨-, -, f2, -⟩ := h.netCell
  have h8' : (n : Int) ≤ 8 := by omega
  have hi' : (i : Int) < n := by omega
  have r1 := h.nod.cell hi
  obtain ⟨-, -, r2⟩ := h.nodeCell hi
  clear h
  obtain ⟨p, hp⟩ : ∃ p, s.isN n t i = p := ⟨_, rfl⟩
  have HPE := Lib.hid hp
  have hnx : s.nexts n t i = pickL p n := by
    rw [← hp]; rfl
  rw [hnx]
  clear hnx hp
  go_enter Try.func24, Try.ntmps24
  go_wp2_with fail
  clear f2 r1 r2
  go_loopw [5, 19] (fun u q wr => ∃ k : Nat, k ≤ n ∧ q = .int .i64 k ∧ OwnV wr w.heap.size u (pickL p k).length (atL (pickL p k)) ∧ Below w.heap.size w wr) (fun _ q _ => n - (intOf q).toNat)
  case atStart => exact ⟨0, by omega, rfl, OwnV.nil _ _ _, Below.refl _ _⟩
  case round =>
    obtain ⟨k, hk, rfl, hu, hb⟩ := hrel
    have HU := Lib.hid hu
    have HB := Lib.hid hb
    have hlen := pickL_len p k
    clear hu hb
    by_cases hlt : k < n
    · have hlt' : (k : Int) < n := by omega
      have hA := HA.out.below HB.out
      obtain ⟨g0, -, g2, -⟩ := hA.netCell
      have g3 := hA.nod.cell hi
      obtain ⟨-, g4, -⟩ := hA.nodeCell hi
      have g5 := (hA.hrdr i hi).cell hlt
      obtain ⟨d, hd⟩ : ∃ d, s.h i k = d := ⟨_, rfl⟩
      obtain ⟨e, he⟩ : ∃ e, s.e i = e := ⟨_, rfl⟩
      rw [hd] at g5
      rw [he] at g4
      have HPV : Hid (p k = decide (i ≠ t ∧ nearE n s.K i k = 0 ∧ d < e)) := by
        show p k = _
        rw [← HPE.out, ← hd, ← he]; rfl
      have HW := Lib.hid hA
      clear hA hd he
      by_cases hit : i = t
      · have b1 : ((i : Int) != (t : Int)) = false := by simp [hit]
        have b2 : (i != t) = false := by simp [hit]
        have HPN : Hid (p k = false) := Lib.hid (HPV.out.trans (decide_eq_false fun h => h.1 hit))
        clear hit
        go_wp2_with fail
        go_roundw
        case rel => exact ⟨k + 1, by omega, by go_num, by rw [pickL_no HPN.out]; exact HU.out, HB.out⟩
        case measure => simp [intOf]; omega
      · have b1 : ((i : Int) != (t : Int)) = true := bne_iff_ne.2 (by omega)
        have b2 : (i != t) = true := bne_iff_ne.2 hit
        by_cases hn : nearE n s.K i k = 0
        · have HC := Lib.hid (lfiNear_ok (a := i) (b := k) (w := wr) HW.out h8 hn)
          by_cases hde : d < e
          · have b3 : decide (d < e) = true := decide_eq_true hde
            have HPY : Hid (p k = true) := Lib.hid (HPV.out.trans (decide_eq_true ⟨hit, hn, hde⟩))
            clear hit hn hde
            go_wp2_with fail
            refine HC.out.mono ?_
            rintro e1 w1 ⟨rfl, h1⟩
            subst w1
            go_wp2_with (at_builtin; refine wpList_append_int rfl (.tmp 51) (.tmp 53) rfl w.heap.size _ _ _ rfl (HU.out.alloc _) k _ rfl (cell_new_at _ _ _ rfl) (by omega) (by have := HB.out.size; simp; omega) ?_)
            intro g6 cap6 w6 hT6 hb6 _ _
            have HT6 : Hid (OwnV w6 w.heap.size (.slice (some ⟨g6, 0, none⟩) ((pickL p k).length + 1) cap6) (pickL p (k + 1)).length (atL (pickL p (k + 1)))) := by
              rw [pickL_yes HPY.out, List.length_append]
              exact OwnV.congr hT6 (atL_snoc _ _)
            have HB6 : Hid (Below w.heap.size w w6) := (HB.out.alloc HB.out.size _).trans hb6
            clear hT6 hb6
            go_wp2_with fail
            go_roundw
            case rel => exact ⟨k + 1, by omega, by go_num, HT6.out, HB6.out⟩
            case measure => simp [intOf]; omega
          · have b3 : decide (d < e) = false := decide_eq_false hde
            have HPN : Hid (p k = false) := Lib.hid (HPV.out.trans (decide_eq_false fun h => hde h.2.2))
            clear hit hn hde
            go_wp2_with fail
            refine HC.out.mono ?_
            rintro e1 w1 ⟨rfl, h1⟩
            subst w1
            go_wp2_with fail
            go_roundw
            case rel => exact ⟨k + 1, by omega, by go_num, by rw [pickL_no HPN.out]; exact HU.out, HB.out⟩
            case measure => simp [intOf]; omega
        · have HPN : Hid (p k = false) := Lib.hid (HPV.out.trans (decide_eq_false fun h => hn h.2.1))
          obtain ⟨v, hv, hv0⟩ : ∃ v, nearE n s.K i k = v ∧ v ≠ 0 := ⟨_, rfl, hn⟩
          have HC := Lib.hid (lfiNear_bad (a := i) (b := k) (w := wr) HW.out h8 hv hv0)
          clear hit hn hv hv0
          go_wp2_with fail
          refine HC.out.mono ?_
          rintro e1 w1 ⟨rfl, h1⟩
          subst w1
          go_wp2_with fail
          go_roundw
          case rel => exact ⟨k + 1, by omega, by go_num, by rw [pickL_no HPN.out]; exact HU.out, HB.out⟩
          case measure => simp [intOf]; omega
    · have ek : k = n := by omega
      subst ek
      go_wp2_with fail
      go_ret
      exact ⟨_, rfl, HU.out, HB.out⟩

set_option maxRecDepth 100000 in
set_option maxHeartbeats 1000000 in
theorem lfiNexts (lab : Nat → List Nat) (A : LAd) (n t : Nat) (s : LS) (i : Nat) (x : Int) (hx : x = (i : Int)) (w : World) (h : LN w lab A n t s) (h8 : n ≤ 8) (hi : i < n) :
    Calls Try.prog 14 #[.pointer (some ⟨A.p, 0, none⟩), .int .i64 x] w fun e w' => ∃ v, e = .returned (.tuple #[v, .nilIface]) ∧ OwnV w' w.heap.size v (s.nexts n t i).length (atL (s.nexts n t i)) ∧ Below w.heap.size w w' := by
  subst hx
  have HC := Lib.hid (lfiOne_ok (a := i) (w := w) h h8 (by omega) (by omega))
  have HC2 := Lib.hid (lfiNexts' lab A n t s i w h h8 hi)
  clear h
  go_enter Try.func14, Try.ntmps14
  go_wp2_with fail
  refine HC.out.mono ?_
  rintro e1 w1 ⟨rfl, h1⟩
  subst w1
  go_wp2_with fail
  refine HC2.out.mono ?_
  rintro e2 w2 ⟨v, rfl, hv, hb⟩
  have HV := Lib.hid hv
  have HB := Lib.hid hb
  clear hv hb
  go_wp2_with fail
  go_ret2
  exact ⟨v, rfl, HV.out, HB.out⟩

set_option maxRecDepth 100000 in
set_option maxHeartbeats 1000000 in
theorem lfiNexts_bad (lab : Nat → List Nat) (A : LAd) (n t : Nat) (s : LS) (x : Int) (w : World) (h : LN w lab A n t s) (h8 : n ≤ 8) (hx : x < 0 ∨ n ≤ x) :
    Calls Try.prog 14 #[.pointer (some ⟨A.p, 0, none⟩), .int .i64 x] w fun e w' => e = .returned (.tuple #[.slice none 0 0, errNo 1]) ∧ w' = w := by
  have HC := Lib.hid (lfiOne_bad (w := w) h h8 hx)
  clear h hx
  go_enter Try.func14, Try.ntmps14
  go_wp2_with fail
  refine HC.out.mono ?_
  rintro e1 w1 ⟨rfl, h1⟩
  subst w1
  go_wp2_with fail
  go_ret2
  exact ⟨rfl, rfl⟩

end Go.Proofs.Ytlemmphnmklbeaa

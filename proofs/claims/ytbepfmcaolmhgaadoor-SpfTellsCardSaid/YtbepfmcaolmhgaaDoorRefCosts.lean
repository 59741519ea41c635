/- The walk of the reference's CostsOf. -/
import Derived.Test.YtbepfmcaolmhgaaDoorCosts
import Derived.Test.YtbepfmcaolmhgaaDoorOwnV
namespace Go.Proofs.YtbepfmcaolmhgaaDoor
open Go.RowKit
set_option linter.unusedVariables false

theorem OwnV.row {w : World} {base n : Nat} {v : Value} {f : Nat → Int} (h1 : 1 ≤ n) (h : OwnV w base v n f) : ∃ g c, v = .slice (some ⟨g, 0, none⟩) n c ∧ base ≤ g ∧ RowP w g 3 n fun i => .int .i64 (f i) := by
  rcases h.form with ⟨rfl, -⟩ | ⟨g, c, e, hb, -, -, hr⟩
  · omega
  · exact ⟨g, c, e, hb, hr⟩

theorem RowP.congrI {w : World} {g n : Nat} {f f' : Nat → Int} (h : RowP w g 3 n fun i => .int .i64 (f i)) (e : ∀ i, i < n → f i = f' i) : RowP w g 3 n fun i => .int .i64 (f' i) :=
  h.congr fun i hi => by rw [e i hi]

set_option maxRecDepth 100000 in
set_option maxHeartbeats 2000000 in
theorem costsOf_walk (n : Nat) (x : Int) (hx : x = (n : Int)) (A : Option Addr) (m cp : Nat) (a b c : Nat → Int) (w : World) (hl : Lnk w A m a b c) (h1 : 1 ≤ n) (h8 : n ≤ 8) (hm : m ≤ 9223372036854775807) :
    Calls Tryd.prog 61 #[.int .i64 x, .slice A m cp] w fun e w' => ∃ v, e = .returned v ∧ Tab w' w.heap.size v n n (costF m a b c) ∧ Below w.heap.size w w' := by
  subst hx
  have h1' : (1 : Int) ≤ n := by omega
  have h8' : (n : Int) ≤ 8 := by omega
  have HL := Lib.hid hl
  clear hl
  go_enter Tryd.func61, Tryd.ntmps61
  go_wp2_with fail
  go_loopw [5, 6] (fun v i wr => ∃ r : Nat, r ≤ n ∧ i = .int .i64 r ∧ Tab wr w.heap.size v r n (costF m a b c) ∧ Below w.heap.size w wr) (fun _ i _ => n - (intOf i).toNat)
  case atStart => exact ⟨0, by omega, rfl, Tab.nil _ _ _ _, Below.refl _ _⟩
  case round =>
    obtain ⟨r, hr, rfl, hT, hb⟩ := hrel
    obtain ⟨wo, hwo⟩ : ∃ wo, wo = wr := ⟨_, rfl⟩
    subst hwo
    have HT := Lib.hid hT
    have HB := Lib.hid hb
    clear hT hb
    by_cases hlt : r < n
    · have hlt' : (r : Int) < n := by omega
      go_wp2_with fail
      go_loopw [7, 8] (fun v i wj => ∃ q : Nat, q ≤ n ∧ i = .int .i64 q ∧ OwnV wj wo.heap.size v q (costF m a b c r) ∧ Below wo.heap.size wo wj) (fun _ i _ => n - (intOf i).toNat)
      case atStart => exact ⟨0, by omega, rfl, OwnV.nil _ _ _, Below.refl _ _⟩
      case round =>
        obtain ⟨q, hq, rfl, hV, hbj⟩ := hrel
        have HV := Lib.hid hV
        have HBJ := Lib.hid hbj
        clear hV hbj
        by_cases hqn : q < n
        · have hqn' : (q : Int) < n := by omega
          obtain ⟨z, hz⟩ : ∃ z, costV m a b c r q = z := ⟨_, rfl⟩
          have HZ := Lib.hid hz
          clear hz
          have hcall := costOf_walk A m cp a b c r q wr (HL.out.keep (keep HB.out HBJ.out)) hm z HZ.out
          go_wp2_with fail
          refine hcall.mono ?_
          clear hcall
          rintro e w5 ⟨rfl, h5⟩
          subst w5
          go_wp2_with (at_builtin; refine wpList_append_int rfl (.tmp 19) (.tmp 24) rfl wo.heap.size _ q _ rfl (HV.out.alloc _) z ⟨wr.heap.size, 0, none⟩ rfl (cell_new_at _ _ _ rfl) (by omega) (Nat.le_trans HBJ.out.size (by simp)) ?_)
          intro g cap w6 hV6 hb6 _ _
          have HV6 := Lib.hid (hV6.congr (f' := costF m a b c r) fun j hj => by
            unfold upd
            by_cases e : j = q
            · rw [if_pos e, e]; exact HZ.out.symm
            · rw [if_neg e])
          have HB6 := Lib.hid ((HBJ.out.alloc HBJ.out.size _).trans hb6)
          clear hV6 hb6
          go_wp2_with fail
          go_roundw
          case rel => exact ⟨q + 1, by omega, by go_num, HV6.out, HB6.out⟩
          case measure => simp [intOf]; omega
        · obtain rfl : q = n := by omega
          obtain ⟨g, cg, rfl, hg, hrow⟩ := HV.out.row h1
          have HG := Lib.hid hg
          have HROW := Lib.hid hrow
          clear hg hrow
          go_wp2_with (at_builtin; refine wpList_append_tab rfl (.tmp 26) (.tmp 28) rfl wo w.heap.size _ r q (costF m a b c) rfl HT.out (HBJ.out.alloc HBJ.out.size _) g cg HG.out (HROW.out.alloc _) _ rfl (cell_new_at _ _ _ rfl) (by omega) HB.out.size ?_)
          intro v2 w2 hT2 hb2
          have HT2 := Lib.hid hT2
          have HB2 : Hid (Below w.heap.size w w2) := (HB.out.trans (((HBJ.out.alloc HBJ.out.size _).mono HB.out.size))).trans hb2
          clear hT2 hb2
          go_wp2_with fail
          go_roundw
          case rel => exact ⟨r + 1, by omega, by go_num, HT2.out, HB2.out⟩
          case measure => simp [intOf]; omega
    · obtain rfl : r = n := by omega
      go_wp2_with fail
      go_ret
      exact ⟨_, rfl, HT.out, HB.out⟩

end Go.Proofs.YtbepfmcaolmhgaaDoor

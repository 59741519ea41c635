/- The walk of graph.Near. -/
import Derived.Test.YtdilajieimbdnaaDoorCosts
import Derived.Test.YtdilajieimbdnaaDoorPick
namespace Go.Proofs.YtdilajieimbdnaaDoor
open Go.RowKit
set_option linter.unusedVariables false

/-- A neighbour, by the cost. -/
def nearB (F : Nat → Int) (k : Nat) : Bool := decide (0 < F k ∧ F k < 16)

set_option maxRecDepth 100000 in
set_option maxHeartbeats 1000000 in
theorem near_bad (x y : Int) (A : Option Addr) (m cp : Nat) (a b c : Nat → Int) (w : World) (hl : Lnk w A m a b c) (hm : m ≤ 9223372036854775807) (v : Int) (h : FaultG x m a b c v ∨ (GoodG x m a b c ∧ (y < 0 ∨ x ≤ y) ∧ v = 1)) :
    Calls Tryd.prog 40 #[.int .i64 x, .slice A m cp, .int .i64 y] w fun e w' => e = .returned (.tuple #[.slice none 0 0, errNo v]) ∧ Below w.heap.size w w' := by
  have HL := Lib.hid hl
  clear hl
  rcases h with hf | ⟨hg, hy, rfl⟩
  · have HF := Lib.hid hf
    clear hf
    go_enter Tryd.func40, Tryd.ntmps40
    go_wp2_with fail
    refine (costs_bad x A m cp a b c w HL.out hm v HF.out).mono ?_
    rintro e w1 ⟨rfl, hb1⟩
    go_wp2_with fail
    go_ret2
    exact ⟨rfl, hb1⟩
  · obtain ⟨n, rfl, -, -, -⟩ := good_nat hg
    have HG := Lib.hid hg
    clear hg
    rcases (show y < 0 ∨ (0 ≤ y ∧ (n : Int) ≤ y) by omega) with hy | ⟨hy0, hy1⟩
    · go_enter Tryd.func40, Tryd.ntmps40
      go_wp2_with fail
      have hcall := costs_ok n n rfl A m cp a b c w HL.out hm HG.out
      refine hcall.mono ?_
      clear hcall
      rintro e w1 ⟨g, cg, B, C, rfl, -, -, hb1⟩
      have HB1 := Lib.hid hb1
      clear hb1
      go_wp2_with fail
      go_ret2
      exact ⟨rfl, HB1.out⟩
    · go_enter Tryd.func40, Tryd.ntmps40
      go_wp2_with fail
      have hcall := costs_ok n n rfl A m cp a b c w HL.out hm HG.out
      refine hcall.mono ?_
      clear hcall
      rintro e w1 ⟨g, cg, B, C, rfl, -, -, hb1⟩
      have HB1 := Lib.hid hb1
      clear hb1
      go_wp2_with fail
      go_ret2
      exact ⟨rfl, HB1.out⟩

set_option maxRecDepth 100000 in
set_option maxHeartbeats 2000000 in
theorem near_ok (n s : Nat) (x y : Int) (hx : x = (n : Int)) (hy : y = (s : Int)) (A : Option Addr) (m cp : Nat) (a b c : Nat → Int) (w : World) (hl : Lnk w A m a b c) (hm : m ≤ 9223372036854775807) (hg : GoodG x m a b c) (hs : s < n) :
    Calls Tryd.prog 40 #[.int .i64 x, .slice A m cp, .int .i64 y] w fun e w' => ∃ v, e = .returned (.tuple #[v, .nilIface]) ∧ OwnV w' w.heap.size v (pickL (nearB (costF m a b c s)) n).length (atL (pickL (nearB (costF m a b c s)) n)) ∧ Below w.heap.size w w' := by
  subst hx
  subst hy
  have h1 : 1 ≤ n := by have := hg.1; omega
  have h8 : n ≤ 8 := by have := hg.2.1; omega
  have HL := Lib.hid hl
  have HG := Lib.hid hg
  have h8' : (n : Int) ≤ 8 := by omega
  have hs' : (s : Int) < n := by omega
  have hd1 : decide ((s : Int) < 0) = false := decide_eq_false (by omega)
  have hd2 : decide (n ≤ s) = false := decide_eq_false (by omega)
  clear hl hg
  go_enter Tryd.func40, Tryd.ntmps40
  go_wp2_with fail
  have hcall := costs_ok n n rfl A m cp a b c w HL.out hm HG.out
  refine hcall.mono ?_
  clear hcall
  rintro e w1 ⟨g, cg, B, C, rfl, -, hat, hb1⟩
  obtain ⟨g', cg', e, -, -, hgc, -⟩ := hat.cells h1
  have eg : g = g' := by
    simp only [Value.slice.injEq, Option.some.injEq, Addr.mk.injEq] at e
    exact e.1.1
  subst eg
  have hcs := hgc s hs
  have HR := Lib.hid (hat.row s hs).2
  have HB1 := Lib.hid hb1
  clear hat hgc e hb1
  go_wp2_with fail
  go_loopw [10, 35] (fun v i wr => ∃ r : Nat, r ≤ n ∧ i = .int .i64 r ∧ OwnV wr w1.heap.size v (pickL (nearB (costF m a b c s)) r).length (atL (pickL (nearB (costF m a b c s)) r)) ∧ Below w1.heap.size w1 wr) (fun _ i _ => n - (intOf i).toNat)
  case atStart => exact ⟨0, by omega, rfl, OwnV.nil _ _ _, Below.refl _ _⟩
  case round =>
    obtain ⟨r, hr, rfl, hT, hb⟩ := hrel
    have HT := Lib.hid hT
    have HB := Lib.hid hb
    clear hT hb
    by_cases hlt : r < n
    · have hlt' : (r : Int) < n := by omega
      have hc := (HR.out.below HB.out HR.out.lt).cell hlt
      have hlen := pickL_len (nearB (costF m a b c s)) r
      by_cases h0 : 0 < costF m a b c s r
      · by_cases h1 : costF m a b c s r < 16
        · have hp : nearB (costF m a b c s) r = true := by unfold nearB; simp [h0, h1]
          have HP := Lib.hid (pickL_yes hp)
          clear hp
          go_wp2_with (at_builtin; refine wpList_append_int rfl (.tmp 46) (.tmp 48) rfl w1.heap.size _ _ _ rfl (HT.out.alloc _) r _ rfl (cell_new_at _ _ _ rfl) (by omega) (by have := HB.out.size; simp; omega) ?_)
          intro g3 cap3 w3 hT3 hb3 _ _
          have HT3 : Hid (OwnV w3 w1.heap.size (.slice (some ⟨g3, 0, none⟩) ((pickL (nearB (costF m a b c s)) r).length + 1) cap3) (pickL (nearB (costF m a b c s)) (r + 1)).length (atL (pickL (nearB (costF m a b c s)) (r + 1)))) := by
            rw [HP.out, List.length_append]
            exact OwnV.congr hT3 (atL_snoc _ _)
          have HB3 : Hid (Below w1.heap.size w1 w3) := (HB.out.alloc HB.out.size _).trans hb3
          clear hT3 hb3 hc hlen
          go_wp2_with fail
          go_roundw
          case rel => exact ⟨r + 1, by omega, by go_num, HT3.out, HB3.out⟩
          case measure => simp [intOf]; omega
        · have hp : nearB (costF m a b c s) r = false := by unfold nearB; simp [h1]
          have HP := Lib.hid (pickL_no hp)
          have hd : decide (costF m a b c s r < 16) = false := decide_eq_false h1
          clear hp h1 hlen
          go_wp2_with fail
          go_roundw
          case rel => exact ⟨r + 1, by omega, by go_num, by rw [HP.out]; exact HT.out, HB.out⟩
          case measure => simp [intOf]; omega
      · have hp : nearB (costF m a b c s) r = false := by unfold nearB; simp [h0]
        have HP := Lib.hid (pickL_no hp)
        have hd : decide (0 < costF m a b c s r) = false := decide_eq_false h0
        clear hp h0 hlen
        go_wp2_with fail
        go_roundw
        case rel => exact ⟨r + 1, by omega, by go_num, by rw [HP.out]; exact HT.out, HB.out⟩
        case measure => simp [intOf]; omega
    · have er : r = n := by omega
      subst er
      have HS : Hid (w.heap.size ≤ w1.heap.size) := HB1.out.size
      go_wp2_with fail
      go_ret2
      refine ⟨_, rfl, ?_, keep HB1.out HB.out⟩
      have h := HT.out
      refine ⟨h.1, ?_⟩
      rcases h.2 with h' | ⟨q, cap, cur, hv, hb, hrest⟩
      · exact .inl h'
      · exact .inr ⟨q, cap, cur, hv, Nat.le_trans HS.out hb, hrest⟩

end Go.Proofs.YtdilajieimbdnaaDoor

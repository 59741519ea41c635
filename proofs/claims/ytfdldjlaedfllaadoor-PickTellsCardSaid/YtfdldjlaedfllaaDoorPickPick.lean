/- pick.Pick: the walk. -/
import Derived.Test.YtfdldjlaedfllaaDoorPickOrder
namespace Go.Proofs.YtfdldjlaedfllaaDoor
open Go.RowKit
set_option linter.unusedVariables false

/-- The hops of a slice in their order. -/
abbrev hopsF (fl : Int) (n : Nat) (f : Nat → Int) : Nat → Int := atL (hopsL fl ((List.range n).map f))

theorem order_ok (fl : Int) (A : Option Addr) (n c : Nat) (f : Nat → Int) (w : World) (hV : Vec w A n f) (hnc : n ≤ c) (hnil : A = none → c = 0) (hreach : n * 8 ≤ 140737488355328) (hcm : c ≤ maxLen) (hO : OnceV n f) :
    Calls Tryd.prog 18 #[.int .i64 fl, .slice A n c] w fun e w' => ∃ A' c', e = .returned (.tuple #[.slice A' n c', .nilIface]) ∧ n ≤ c' ∧ Vec w' A' n (hopsF fl n f) ∧ Below w.heap.size w w' := by
  refine (order_walk fl A n c f w hV hnc hnil hreach hcm).mono ?_
  rintro e w' ⟨hb, ⟨-, A', c', he, hc, hv⟩ | ⟨h, -⟩⟩
  · exact ⟨A', c', he, hc, hv, hb⟩
  · exact absurd hO h

theorem order_bad (fl : Int) (A : Option Addr) (n c : Nat) (f : Nat → Int) (w : World) (hV : Vec w A n f) (hnc : n ≤ c) (hnil : A = none → c = 0) (hreach : n * 8 ≤ 140737488355328) (hcm : c ≤ maxLen) (hO : ¬ OnceV n f) :
    Calls Tryd.prog 18 #[.int .i64 fl, .slice A n c] w fun e w' => e = .returned (.tuple #[.slice none 0 0, errNo 5]) ∧ Below w.heap.size w w' := by
  refine (order_walk fl A n c f w hV hnc hnil hreach hcm).mono ?_
  rintro e w' ⟨hb, ⟨h, -⟩ | ⟨-, he⟩⟩
  · exact absurd h hO
  · exact ⟨he, hb⟩

set_option maxRecDepth 100000 in
set_option maxHeartbeats 1000000 in
theorem pick_ok (fl : Int) (A : Option Addr) (n c : Nat) (f : Nat → Int) (w : World) (hV : Vec w A n f) (hnc : n ≤ c) (hnil : A = none → c = 0) (hreach : n * 8 ≤ 140737488355328) (hcm : c ≤ maxLen) (hO : OnceV n f) (h0 : 0 < n) :
    Calls Tryd.prog 15 #[.int .i64 fl, .slice A n c] w fun e w' => e = .returned (.tuple #[.int .i64 (hopsF fl n f 0), .nilIface]) ∧ Below w.heap.size w w' := by
  have hcall := order_ok fl A n c f w hV hnc hnil hreach hcm hO
  have HC := Lib.hid hcall
  have hne : ((n : Int) == 0) = false := by simp; omega
  have hne2 : decide ((0 : Int) < n) = true := decide_eq_true (by omega)
  have hn0 : (0 : Int) < n := by omega
  clear hcall hV hnil hreach hcm hO
  generalize hopsF fl n f = g at HC
  go_enter Tryd.func15, Tryd.ntmps15
  go_wp2_with fail
  refine HC.out.mono ?_
  rintro e w1 ⟨A', c', rfl, hc', hv, hb⟩
  clear HC
  obtain ⟨ad, rfl, -, hcell⟩ := hv 0 h0
  have hcell' : w1.cell? ad = some (.int .i64 (g 0)) := by rw [Addr.add_zero'] at hcell; exact hcell
  have HB := Lib.hid hb
  clear hcell hb hv
  go_wp2_with fail
  go_ret2
  exact ⟨rfl, HB.out⟩

set_option maxRecDepth 100000 in
set_option maxHeartbeats 1000000 in
theorem pick_none (fl : Int) (A : Option Addr) (c : Nat) (f : Nat → Int) (w : World) (hnil : A = none → c = 0) (hcm : c ≤ maxLen) :
    Calls Tryd.prog 15 #[.int .i64 fl, .slice A 0 c] w fun e w' => e = .returned (.tuple #[.int .i64 0, errNo 2]) ∧ Below w.heap.size w w' := by
  have hcall := order_ok fl A 0 c f w (fun j hj => absurd hj (by omega)) (Nat.zero_le _) hnil (by omega) hcm (fun i hi => absurd hi (by omega))
  have HC := Lib.hid hcall
  clear hcall hnil hcm
  go_enter Tryd.func15, Tryd.ntmps15
  go_wp2_with fail
  refine HC.out.mono ?_
  rintro e w1 ⟨A', c', rfl, hc', hv, hb⟩
  have HB := Lib.hid hb
  clear HC hb hv
  go_wp2_with fail
  go_ret2
  exact ⟨rfl, HB.out⟩

set_option maxRecDepth 100000 in
set_option maxHeartbeats 1000000 in
theorem pick_bad (fl : Int) (A : Option Addr) (n c : Nat) (f : Nat → Int) (w : World) (hV : Vec w A n f) (hnc : n ≤ c) (hnil : A = none → c = 0) (hreach : n * 8 ≤ 140737488355328) (hcm : c ≤ maxLen) (hO : ¬ OnceV n f) :
    Calls Tryd.prog 15 #[.int .i64 fl, .slice A n c] w fun e w' => e = .returned (.tuple #[.int .i64 0, errNo 5]) ∧ Below w.heap.size w w' := by
  have hcall := order_bad fl A n c f w hV hnc hnil hreach hcm hO
  have HC := Lib.hid hcall
  clear hcall hV hnil hreach hcm hO
  go_enter Tryd.func15, Tryd.ntmps15
  go_wp2_with fail
  refine HC.out.mono ?_
  rintro e w1 ⟨rfl, hb⟩
  have HB := Lib.hid hb
  clear HC hb
  go_wp2_with fail
  go_ret2
  exact ⟨rfl, HB.out⟩

/-- The facts that the laws begin with: one hop alone is picked. -/
theorem pick_fact (w : World) : Calls Tryd.prog 15 #[.int .i64 3, .slice (some ⟨w.heap.size, 0, none⟩) 1 1] (w.alloc (.cells #[.int .i64 5] 3)) fun e w' => e = .returned (.tuple #[.int .i64 5, .nilIface]) ∧ Below w.heap.size w w' := by
  have h := pick_ok 3 (some ⟨w.heap.size, 0, none⟩) 1 1 (fun _ => 5) (w.alloc (.cells #[.int .i64 5] 3)) (fun j hj => by
    obtain rfl : j = 0 := by omega
    exact ⟨_, rfl, (Blk.new w 3 #[.int .i64 5]).lt, by rw [Addr.add_zero']; exact (Blk.new w 3 #[.int .i64 5]).cell 0⟩) (Nat.le_refl _) (fun h => by cases h) (by omega) (by unfold maxLen; omega) (fun i hi j hj => by omega) (by omega)
  refine h.mono ?_
  rintro e w' ⟨rfl, hb⟩
  refine ⟨?_, keepAlloc (Below.refl _ _) hb⟩
  have : hopsL 3 ((List.range 1).map fun _ => 5) = [5] := by simp [hopsL, List.range_succ]
  unfold hopsF
  rw [this]
  rfl

end Go.Proofs.YtfdldjlaedfllaaDoor

/- The walk of waywardenlaw4.looped. -/
import Derived.Test.YtjbilhpdnmgljaaDoorLoops
import Derived.Test.YtjbilhpdnmgljaaDoorDeep
import Derived.Test.YtjbilhpdnmgljaaDoorLoopLaw
import Derived.Test.YtjbilhpdnmgljaaDoorInts
namespace Go.Proofs.YtjbilhpdnmgljaaDoor
open Go.RowKit
set_option linter.unusedVariables false

def fourN (j : Nat) : Int := match j with | 0 => 1 | 3 => -1 | _ => 0
def fourP (j : Nat) : Bool := decide (j < 2)

theorem four_ok : OkN 4 fourN := fun i hi => by
  have h : i = 0 ∨ i = 1 ∨ i = 2 ∨ i = 3 := by omega
  rcases h with rfl | rfl | rfl | rfl <;> decide
theorem four_on : ∀ v, v < 4 → (fourP v = true ↔ OnC fourN v) := fun v hv => by
  have h : v = 0 ∨ v = 1 ∨ v = 2 ∨ v = 3 := by omega
  have hno : ∀ v : Nat, v < 4 → (∀ k, k < 5 → 1 ≤ k → itN fourN v k ≠ v) → ¬ OnC fourN v := fun v hv hk h => by
    obtain ⟨k, h1, h2, h3⟩ := h.short four_ok hv
    exact hk k (by omega) h1 h3
  rcases h with rfl | rfl | rfl | rfl
  · exact ⟨fun _ => ⟨2, by omega, by decide⟩, fun _ => rfl⟩
  · exact ⟨fun _ => ⟨2, by omega, by decide⟩, fun _ => rfl⟩
  · exact ⟨(fun h => by cases h), fun h => absurd h (hno 2 (by omega) (by decide))⟩
  · exact ⟨(fun h => by cases h), fun h => absurd h (hno 3 (by omega) (by decide))⟩
theorem four_vec (w : World) : Vec (w.alloc (.cells #[.int .i64 1, .int .i64 0, .int .i64 0, .int .i64 (-1)] 3)) (some ⟨w.heap.size, 0, none⟩) 4 fourN := fun j hj =>
  have b := Blk.new w 3 #[.int .i64 1, .int .i64 0, .int .i64 0, .int .i64 (-1)]
  ⟨_, rfl, b.lt, by
    rw [Addr.add_lit, Nat.zero_add, b.cell]
    have h : j = 0 ∨ j = 1 ∨ j = 2 ∨ j = 3 := by omega
    rcases h with rfl | rfl | rfl | rfl <;> rfl⟩

set_option maxRecDepth 100000 in
set_option maxHeartbeats 2000000 in
theorem looped_walk (w : World) :
    Calls Tryd.prog 40 #[] w fun e w' => e = .returned (.bool true) ∧ Below w.heap.size w w' := by
  go_enter Tryd.func40, Tryd.ntmps40
  go_wp2_with fail
  have hcall := loops_ok (some ⟨w.heap.size, 0, none⟩) 4 4 fourN _ (four_vec w) (by omega) four_ok fourP four_on
  refine hcall.mono ?_
  clear hcall
  rintro e w1 ⟨v, rfl, hown, hb⟩
  obtain ⟨A, c', rfl, hV⟩ := hown.vec
  have hlen : (pickL fourP 4).length = 2 := by rfl
  rw [hlen] at hV
  have HV := Lib.hid hV
  have HB : Hid (Below w.heap.size w w1) := ((Below.refl w.heap.size w).alloc (Nat.le_refl _) _).trans (hb.mono (by simp))
  clear hown hV hb
  go_wp2_with fail
  have hcall := ints_walk A (some ⟨w1.heap.size, 0, none⟩) 2 2 c' 2 _ (fun j => (j : Int)) (w1.alloc (.cells #[.int .i64 0, .int .i64 1] 3)) (HV.out.keep ((Below.refl _ _).alloc (Nat.le_refl _) _)) (fun j hj => ⟨_, rfl, (Blk.new w1 3 #[.int .i64 0, .int .i64 1]).lt, by
    rw [Addr.add_lit, Nat.zero_add, (Blk.new w1 3 #[.int .i64 0, .int .i64 1]).cell]
    have h : j = 0 ∨ j = 1 := by omega
    rcases h with rfl | rfl <;> rfl⟩) (by omega) (by omega) true ⟨fun _ => ⟨rfl, fun i hi => by
      have h : i = 0 ∨ i = 1 := by omega
      rcases h with rfl | rfl <;> rfl⟩, fun _ => rfl⟩
  refine hcall.mono ?_
  clear hcall
  rintro e w2 ⟨rfl, k2, rfl⟩
  go_wp2_with fail
  go_ret
  exact ⟨rfl, below_drewN (HB.out.alloc HB.out.size _) _⟩

end Go.Proofs.YtjbilhpdnmgljaaDoor

/- The walk of the fact of tables. -/
import Derived.Test.YtdilajieimbdnaaDoorWords
import Derived.Test.YtdilajieimbdnaaDoorSame
namespace Go.Proofs.YtdilajieimbdnaaDoor
open Go.RowKit
set_option linter.unusedVariables false

theorem mat_lit2 (w : World) : Mat (((w.alloc (.cells #[.int .i64 0, .int .i64 16] 3)).alloc (.cells #[.int .i64 16, .int .i64 0] 3)).alloc (.cells #[.slice (some ⟨w.heap.size, 0, none⟩) 2 2, .slice (some ⟨w.heap.size + 1, 0, none⟩) 2 2] 23))
    (some ⟨w.heap.size + 1 + 1, 0, none⟩) 2 (fun _ => 2) oneF := by
  have b0 := ((Blk.new w 3 #[.int .i64 0, .int .i64 16]).alloc (.cells #[.int .i64 16, .int .i64 0] 3)).alloc (.cells #[.slice (some ⟨w.heap.size, 0, none⟩) 2 2, .slice (some ⟨w.heap.size + 1, 0, none⟩) 2 2] 23)
  have b1 := (Blk.new (w.alloc (.cells #[.int .i64 0, .int .i64 16] 3)) 3 #[.int .i64 16, .int .i64 0]).alloc (.cells #[.slice (some ⟨w.heap.size, 0, none⟩) 2 2, .slice (some ⟨w.heap.size + 1, 0, none⟩) 2 2] 23)
  have b2 := Blk.new ((w.alloc (.cells #[.int .i64 0, .int .i64 16] 3)).alloc (.cells #[.int .i64 16, .int .i64 0] 3)) 23 #[.slice (some ⟨w.heap.size, 0, none⟩) 2 2, .slice (some ⟨w.heap.size + 1, 0, none⟩) 2 2]
  rw [show (w.alloc (.cells #[Value.int .i64 0, .int .i64 16] 3)).heap.size = w.heap.size + 1 by simp] at b1
  rw [show ((w.alloc (.cells #[Value.int .i64 0, .int .i64 16] 3)).alloc (.cells #[Value.int .i64 16, .int .i64 0] 3)).heap.size = w.heap.size + 1 + 1 by simp] at b2
  intro i hi
  have h : i = 0 ∨ i = 1 := by omega
  rcases h with rfl | rfl
  · refine ⟨_, some ⟨w.heap.size, 0, none⟩, 2, rfl, b2.lt, by rw [Addr.add_lit, Nat.zero_add, b2.cell]; rfl, vec_of_blk b0 fun j hj => ?_⟩
    have hj : j < 2 := hj
    have h : j = 0 ∨ j = 1 := by omega
    rcases h with rfl | rfl <;> rfl
  · refine ⟨_, some ⟨w.heap.size + 1, 0, none⟩, 2, rfl, b2.lt, by rw [Addr.add_lit, Nat.zero_add, b2.cell]; rfl, vec_of_blk b1 fun j hj => ?_⟩
    have hj : j < 2 := hj
    have h : j = 0 ∨ j = 1 := by omega
    rcases h with rfl | rfl <;> rfl

set_option maxRecDepth 100000 in
set_option maxHeartbeats 1000000 in
theorem tabled_walk (w : World) :
    Calls Tryd.prog 43 #[] w fun e w' => e = .returned (.bool true) ∧ Below w.heap.size w w' := by
  go_enter Tryd.func43, Tryd.ntmps43
  go_wp2_with fail
  have hcall := matOne_ok 2 2 rfl w (by omega) (by omega)
  refine hcall.mono ?_
  clear hcall
  rintro e w1 ⟨A, c, rfl, hm, hb⟩
  have HM := Lib.hid hm
  have HB := Lib.hid hb
  clear hm hb
  go_wp2_with fail
  have hcall := rows_walk A (some ⟨w1.heap.size + 1 + 1, 0, none⟩) 2 2 c 2 (fun _ => 2) (fun _ => 2) oneF oneF _ (((HM.out.alloc' _).alloc' _).alloc' _) (mat_lit2 w1) (by omega) (by omega) (fun _ _ => by omega) (fun _ _ => by omega) true ⟨fun _ => ⟨rfl, fun _ _ => ⟨rfl, fun _ _ => rfl⟩⟩, fun _ => rfl⟩
  refine hcall.mono ?_
  clear hcall
  rintro e w2 ⟨rfl, k, rfl⟩
  go_wp2_with fail
  go_ret
  exact ⟨rfl, below_drewN (((HB.out.alloc HB.out.size _).alloc (by simp; have := HB.out.size; omega) _).alloc (by simp; have := HB.out.size; omega) _) _⟩

end Go.Proofs.YtdilajieimbdnaaDoor

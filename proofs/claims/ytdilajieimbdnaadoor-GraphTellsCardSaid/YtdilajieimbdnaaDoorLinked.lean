/- The walk of the fact of links; costs behind a cut. -/
import Derived.Test.YtdilajieimbdnaaDoorOwnLk
import Derived.Test.YtdilajieimbdnaaDoorWords
import Derived.Test.YtdilajieimbdnaaDoorSame
namespace Go.Proofs.YtdilajieimbdnaaDoor
open Go.RowKit
set_option linter.unusedVariables false

/-- A table of two rows, written out. -/
theorem mat_lit22 (w : World) (x0 x1 y0 y1 : Int) (f : Nat → Nat → Int) (h00 : f 0 0 = x0) (h01 : f 0 1 = x1) (h10 : f 1 0 = y0) (h11 : f 1 1 = y1) :
    Mat (((w.alloc (.cells #[.int .i64 x0, .int .i64 x1] 3)).alloc (.cells #[.int .i64 y0, .int .i64 y1] 3)).alloc (.cells #[.slice (some ⟨w.heap.size, 0, none⟩) 2 2, .slice (some ⟨w.heap.size + 1, 0, none⟩) 2 2] 23))
      (some ⟨w.heap.size + 1 + 1, 0, none⟩) 2 (fun _ => 2) f := by
  have b0 := ((Blk.new w 3 #[.int .i64 x0, .int .i64 x1]).alloc (.cells #[.int .i64 y0, .int .i64 y1] 3)).alloc (.cells #[.slice (some ⟨w.heap.size, 0, none⟩) 2 2, .slice (some ⟨w.heap.size + 1, 0, none⟩) 2 2] 23)
  have b1 := (Blk.new (w.alloc (.cells #[.int .i64 x0, .int .i64 x1] 3)) 3 #[.int .i64 y0, .int .i64 y1]).alloc (.cells #[.slice (some ⟨w.heap.size, 0, none⟩) 2 2, .slice (some ⟨w.heap.size + 1, 0, none⟩) 2 2] 23)
  have b2 := Blk.new ((w.alloc (.cells #[.int .i64 x0, .int .i64 x1] 3)).alloc (.cells #[.int .i64 y0, .int .i64 y1] 3)) 23 #[.slice (some ⟨w.heap.size, 0, none⟩) 2 2, .slice (some ⟨w.heap.size + 1, 0, none⟩) 2 2]
  rw [show (w.alloc (.cells #[Value.int .i64 x0, .int .i64 x1] 3)).heap.size = w.heap.size + 1 by simp] at b1
  rw [show ((w.alloc (.cells #[Value.int .i64 x0, .int .i64 x1] 3)).alloc (.cells #[Value.int .i64 y0, .int .i64 y1] 3)).heap.size = w.heap.size + 1 + 1 by simp] at b2
  intro i hi
  have h : i = 0 ∨ i = 1 := by omega
  rcases h with rfl | rfl
  · refine ⟨_, some ⟨w.heap.size, 0, none⟩, 2, rfl, b2.lt, by rw [Addr.add_lit, Nat.zero_add, b2.cell]; rfl, vec_of_blk b0 fun j hj => ?_⟩
    have hj : j < 2 := hj
    have h : j = 0 ∨ j = 1 := by omega
    rcases h with rfl | rfl
    · rw [h00]; rfl
    · rw [h01]; rfl
  · refine ⟨_, some ⟨w.heap.size + 1, 0, none⟩, 2, rfl, b2.lt, by rw [Addr.add_lit, Nat.zero_add, b2.cell]; rfl, vec_of_blk b1 fun j hj => ?_⟩
    have hj : j < 2 := hj
    have h : j = 0 ∨ j = 1 := by omega
    rcases h with rfl | rfl
    · rw [h10]; rfl
    · rw [h11]; rfl

set_option maxRecDepth 100000 in
set_option maxHeartbeats 1000000 in
theorem linked_walk (w : World) :
    Calls Tryd.prog 33 #[] w fun e w' => e = .returned (.bool true) ∧ Below w.heap.size w w' := by
  go_enter Tryd.func33, Tryd.ntmps33
  go_wp2_with fail
  have hcall := costs_ok 2 2 rfl (some ⟨w.heap.size, 0, none⟩) 1 1 (fun _ => 0) (fun _ => 1) (fun _ => 3) _ (lnk_lit w) (by omega) good_lit
  refine hcall.mono ?_
  clear hcall
  rintro e w1 ⟨g, cg, B, C, rfl, -, hat, hb⟩
  have HM := Lib.hid (hat.mat' (by omega))
  have HB : Hid (Below w.heap.size w w1) := keepAlloc (Below.refl _ _) hb
  clear hat hb
  go_wp2_with fail
  have hcall := rows_walk (some ⟨g, 0, none⟩) (some ⟨w1.heap.size + 1 + 1, 0, none⟩) 2 2 cg 2 (fun _ => 2) (fun _ => 2) (costF 1 (fun _ => 0) (fun _ => 1) (fun _ => 3)) (costF 1 (fun _ => 0) (fun _ => 1) (fun _ => 3)) _ (((HM.out.alloc' _).alloc' _).alloc' _) (mat_lit22 w1 0 3 3 0 _ (by decide) (by decide) (by decide) (by decide)) (by omega) (by omega) (fun _ _ => by omega) (fun _ _ => by omega) true ⟨fun _ => ⟨rfl, fun _ _ => ⟨rfl, fun _ _ => rfl⟩⟩, fun _ => rfl⟩
  refine hcall.mono ?_
  clear hcall
  rintro e w2 ⟨rfl, k, rfl⟩
  go_wp2_with fail
  go_ret
  exact ⟨rfl, below_drewN (((HB.out.alloc HB.out.size _).alloc (by simp; have := HB.out.size; omega) _).alloc (by simp; have := HB.out.size; omega) _) _⟩

/-- A cost behind a cut. -/
theorem cut_pair {n m j : Nat} {a b c : Nat → Int} (hr : Right n m a b c) (hj : j < m) {u v : Int} (hmt : Mt a b j u v) (p q : Nat) :
    costF (m - 1) (dropF j a) (dropF j b) (dropF j c) p q = if ((p : Int) = u ∧ (q : Int) = v) ∨ ((p : Int) = v ∧ (q : Int) = u) then 16 else costF m a b c p q := by
  rw [costF_drop hr hj p q]
  have hiff : ((p = nA a j ∧ q = nA b j) ∨ (p = nA b j ∧ q = nA a j)) ↔ (((p : Int) = u ∧ (q : Int) = v) ∨ ((p : Int) = v ∧ (q : Int) = u)) := by
    obtain ⟨-, -, -, -, -, ea, eb⟩ := right_nat hr hj
    unfold Mt at hmt
    rw [ea, eb] at hmt
    omega
  by_cases h : (p = nA a j ∧ q = nA b j) ∨ (p = nA b j ∧ q = nA a j)
  · rw [if_pos h, if_pos (hiff.1 h)]
  · rw [if_neg h, if_neg fun h' => h (hiff.2 h')]

theorem TabAt.lift {w w' : World} {base base' : Nat} {v : Value} {B C : Nat → Nat} {i n : Nat} {f : Nat → Nat → Int} (h : TabAt w base v B C i n f) (hb : base' ≤ base) : TabAt w base' v B C i n f := by
  refine ⟨⟨h.own.1, ?_⟩, fun r hr => ⟨Nat.le_trans hb (h.row r hr).1, (h.row r hr).2⟩, h.inj⟩
  rcases h.own.2 with h' | ⟨g, cap, cur, hv, hg, hrest⟩
  · exact .inl h'
  · exact .inr ⟨g, cap, cur, hv, Nat.le_trans hb hg, hrest⟩

end Go.Proofs.YtdilajieimbdnaaDoor

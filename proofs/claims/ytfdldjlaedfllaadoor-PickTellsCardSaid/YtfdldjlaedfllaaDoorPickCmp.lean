/- Which of two hops stands ahead: the walk of Order's closure. -/
import Derived.Test.YtfdldjlaedfllaaDoorPickMix
import Derived.Test.YtfdldjlaedfllaaDoorHeld
namespace Go.Proofs.YtfdldjlaedfllaaDoor
open Go.RowKit
set_option linter.unusedVariables false

/-- By what they are mixed to, the greater ahead; then by the number. -/
def ordC (fl x y : Int) : Int := if cmpI (mixI fl y) (mixI fl x) = 0 then cmpI x y else cmpI (mixI fl y) (mixI fl x)

set_option maxRecDepth 100000 in
set_option maxHeartbeats 4000000 in
theorem order_closure (p : Nat) (fl x y : Int) (w : World) (h : w.cell? ⟨p, 0, none⟩ = some (.int .i64 fl)) :
    Calls Tryd.prog 33 #[.int .i64 x, .int .i64 y, .pointer (some ⟨p, 0, none⟩)] w fun e w' => e = .returned (.int .i64 (ordC fl x y)) ∧ ∃ q, w' = (w.drewN q).alloc (.cells #[.int .i64 (cmpI (mixI fl y) (mixI fl x)), .int .i64 (cmpI x y)] 3) := by
  have HS0 : Hid (w.drew.cell? ⟨p, 0, none⟩ = some (.int .i64 fl)) := h
  obtain ⟨r, hr⟩ : ∃ r, ordC fl x y = r := ⟨_, rfl⟩
  have HO : Hid ((if cmpI (mixI fl y) (mixI fl x) = 0 then cmpI x y else cmpI (mixI fl y) (mixI fl x)) = r) := hr
  rw [hr]
  clear hr
  clear h
  go_enter Tryd.func33, Tryd.ntmps33
  go_wp2_with fail
  refine wp_region_held (S := fun w' => w'.cell? ⟨p, 0, none⟩ = some (.int .i64 fl)) (by kernel_rfl) ?_
  refine heldTake (i := 0) (v := ?_) rfl (by kernel_rfl) (by kernel_rfl) (by kernel_rfl) (fun _ _ _ h => h) HS0.out ?_ (by kernel_rfl) ?_
  rotate_left 1
  · intro w0 hS0
    have s0 : w0.cell? ⟨p, 0, none⟩ = some (.int .i64 fl) := hS0
    go_simp
    try with_reducible rfl
  try simp only [Act.put, List.setIfInBounds_toArray]
  refine heldTake (i := 1) (v := ?_) rfl (by kernel_rfl) (by kernel_rfl) (by kernel_rfl) (fun _ _ _ h => h) HS0.out ?_ (by kernel_rfl) ?_
  rotate_left 1
  · intro w0 hS0
    have s0 : w0.cell? ⟨p, 0, none⟩ = some (.int .i64 fl) := hS0
    go_simp
    try with_reducible rfl
  try simp only [Act.put]
  refine heldTake (i := 3) (v := ?_) rfl (by kernel_rfl) (by kernel_rfl) (by kernel_rfl) (fun _ _ _ h => h) HS0.out ?_ (by kernel_rfl) ?_
  rotate_left 1
  · intro w0 hS0
    have s0 : w0.cell? ⟨p, 0, none⟩ = some (.int .i64 fl) := hS0
    go_simp
    try with_reducible rfl
  try simp only [Act.put]
  refine heldTake (i := 4) (v := ?_) rfl (by kernel_rfl) (by kernel_rfl) (by kernel_rfl) (fun _ _ _ h => h) HS0.out ?_ (by kernel_rfl) ?_
  rotate_left 1
  · intro w0 hS0
    have s0 : w0.cell? ⟨p, 0, none⟩ = some (.int .i64 fl) := hS0
    go_simp
    try with_reducible rfl
  try simp only [Act.put]
  refine heldTake (i := 7) (v := ?_) rfl (by kernel_rfl) (by kernel_rfl) (by kernel_rfl) (fun _ _ _ h => h) HS0.out ?_ (by kernel_rfl) ?_
  rotate_left 1
  · intro w0 hS0
    have s0 : w0.cell? ⟨p, 0, none⟩ = some (.int .i64 fl) := hS0
    go_simp
    try with_reducible rfl
  try simp only [Act.put]
  refine heldTake (i := 8) (v := ?_) rfl (by kernel_rfl) (by kernel_rfl) (by kernel_rfl) (fun _ _ _ h => h) HS0.out ?_ (by kernel_rfl) ?_
  rotate_left 1
  · intro w0 hS0
    have s0 : w0.cell? ⟨p, 0, none⟩ = some (.int .i64 fl) := hS0
    go_simp
    try with_reducible rfl
  try simp only [Act.put]
  refine heldCall (i := 2) rfl (by kernel_rfl) (by kernel_rfl) (fun K hK => ?_)
  refine heldFn #[.tmp 6, .tmp 7] rfl Tryd.func35 (by kernel_rfl) (by kernel_rfl) (vs := #[.int .i64 fl, .int .i64 y]) (by kernel_rfl) ?_
  refine (mix_walk fl y _).mono ?_
  rintro e1 w1 ⟨rfl, h1⟩
  subst w1
  refine ⟨_, rfl, hK.out _ _ HS0.out ?_⟩
  clear hK K
  try simp only [Act.put]
  refine heldCall (i := 5) rfl (by kernel_rfl) (by kernel_rfl) (fun K hK => ?_)
  refine heldFn #[.tmp 9, .tmp 10] rfl Tryd.func35 (by kernel_rfl) (by kernel_rfl) (vs := #[.int .i64 fl, .int .i64 x]) (by kernel_rfl) ?_
  refine (mix_walk fl x _).mono ?_
  rintro e1 w1 ⟨rfl, h1⟩
  subst w1
  refine ⟨_, rfl, hK.out _ _ HS0.out ?_⟩
  clear hK K
  try simp only [Act.put]
  refine heldCall (i := 6) rfl (by kernel_rfl) (by kernel_rfl) (fun K hK => ?_)
  refine heldFn #[.tmp 8, .tmp 11] rfl Tryd.func34 (by kernel_rfl) (by kernel_rfl) (vs := #[.int .i64 (mixI fl y), .int .i64 (mixI fl x)]) (by kernel_rfl) ?_
  refine (cmp_walk (mixI fl y) (mixI fl x) _).mono ?_
  rintro e1 w1 ⟨rfl, h1⟩
  subst w1
  refine ⟨_, rfl, hK.out _ _ HS0.out ?_⟩
  clear hK K
  try simp only [Act.put]
  refine heldCall (i := 9) rfl (by kernel_rfl) (by kernel_rfl) (fun K hK => ?_)
  refine heldFn #[.tmp 13, .tmp 14] rfl Tryd.func34 (by kernel_rfl) (by kernel_rfl) (vs := #[.int .i64 x, .int .i64 y]) (by kernel_rfl) ?_
  refine (cmp_walk x y _).mono ?_
  rintro e1 w1 ⟨rfl, h1⟩
  subst w1
  refine ⟨_, rfl, hK.out _ _ HS0.out ?_⟩
  clear hK K
  try simp only [Act.put]
  refine heldStep (i := 10) rfl (by kernel_rfl) (fun K hK => ?_)
  have hb : Below w.heap.size w (w.alloc (.cells #[.int .i64 (cmpI (mixI fl y) (mixI fl x)), .int .i64 (cmpI x y)] 3)) := (Below.refl _ _).alloc (Nat.le_refl _) _
  have hs1 : (w.alloc (.cells #[.int .i64 (cmpI (mixI fl y) (mixI fl x)), .int .i64 (cmpI x y)] 3)).drew.cell? ⟨p, 0, none⟩ = some (.int .i64 fl) := (hb.cell (World.block_lt_of_cell? w _ HS0.out)).trans HS0.out
  have HS1 := Lib.hid hs1
  clear hb hs1
  go_simp
  refine hK.out _ _ HS1.out ?_
  clear hK K
  try simp only [Act.put]
  refine heldCall (i := 11) rfl (by kernel_rfl) (by kernel_rfl) (fun K hK => ?_)
  refine heldFn #[.tmp 16] rfl Tryd.func26 (by kernel_rfl) (by kernel_rfl) (vs := #[.slice (some ⟨w.heap.size, 0, none⟩) 2 2]) (by kernel_rfl) ?_
  have hor := or_walk ⟨w.heap.size, 0, none⟩ 2 (cmpI (mixI fl y) (mixI fl x)) (cmpI x y) (w.alloc (.cells #[.int .i64 (cmpI (mixI fl y) (mixI fl x)), .int .i64 (cmpI x y)] 3)).drew ((Blk.new w _ _).cell 0) ((Blk.new w _ _).cell 1)
  rw [HO.out] at hor
  refine hor.mono ?_
  clear hor
  rintro e1 w1 ⟨rfl, h1⟩
  subst w1
  refine ⟨_, rfl, hK.out _ _ HS1.out ?_⟩
  clear hK K
  try simp only [Act.put]
  refine heldLast (i := 12) rfl (by kernel_rfl) (by kernel_rfl) (fun K hK => ?_)
  go_simp
  refine hK.out _ _ HS1.out ?_
  clear hK K
  go_wp2_with fail
  go_ret
  exact ⟨rfl, 1, rfl⟩

end Go.Proofs.YtfdldjlaedfllaaDoor

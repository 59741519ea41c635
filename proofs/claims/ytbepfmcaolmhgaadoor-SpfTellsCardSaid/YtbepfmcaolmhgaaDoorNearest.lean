/- The fact of spf: nearest. -/
import Derived.Test.YtbepfmcaolmhgaaDoorSpfFar
import Derived.Test.YtbepfmcaolmhgaaDoorBellFixed
import Derived.Test.YtbepfmcaolmhgaaDoorInts
namespace Go.Proofs.YtbepfmcaolmhgaaDoor
open Go.RowKit
set_option linter.unusedVariables false

set_option maxRecDepth 100000 in
set_option maxHeartbeats 1000000 in
theorem nearest_walk (w : World) :
    Calls Tryd.prog 19 #[] w fun e w' => e = .returned (.bool true) ∧ Below w.heap.size w w' := by
  go_enter Tryd.func19, Tryd.ntmps19
  go_wp2_with fail
  have hcall := spfFar_ok 2 0 2 0 rfl rfl (some ⟨w.heap.size, 0, none⟩) 1 1 (fun _ => 0) (fun _ => 1) (fun _ => 3) _ (lnk_lit w) (by omega) good_lit (by omega)
  refine hcall.mono ?_
  clear hcall
  rintro e w1 ⟨g, rfl, hg, hrow, hb⟩
  have HR := Lib.hid hrow
  have HB : Hid (Below w.heap.size w w1) := keepAlloc (Below.refl _ _) hb
  clear hg hrow hb
  go_wp2_with fail
  have hcall := ints_walk (some ⟨g, 0, none⟩) (some ⟨w1.heap.size, 0, none⟩) 2 2 2 2 _ (fun i => if i = 0 then 0 else 3) _ ((HR.out.alloc (.cells #[.int .i64 0, .int .i64 3] 3)).vec)
    (fun j hj => ⟨_, rfl, (Blk.new w1 3 #[.int .i64 0, .int .i64 3]).lt, by
      rw [Addr.add_lit, (Blk.new w1 3 #[.int .i64 0, .int .i64 3]).cell]
      have h : j = 0 ∨ j = 1 := by omega
      rcases h with rfl | rfl <;> rfl⟩) (by omega) (by omega) true ⟨fun _ => ⟨rfl, fun i hi => (end_lit i hi).symm⟩, fun _ => rfl⟩
  refine hcall.mono ?_
  clear hcall
  rintro e w2 ⟨rfl, k2, rfl⟩
  go_wp2_with fail
  go_ret
  exact ⟨rfl, below_drewN (HB.out.alloc HB.out.size _) _⟩

end Go.Proofs.YtbepfmcaolmhgaaDoor

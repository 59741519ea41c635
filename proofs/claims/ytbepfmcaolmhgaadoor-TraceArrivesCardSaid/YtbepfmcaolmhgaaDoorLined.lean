/- The fact of a line. -/
import Derived.Test.YtbepfmcaolmhgaaDoorLineOps
import Derived.Test.YtbepfmcaolmhgaaDoorLineIt
import Derived.Test.YtbepfmcaolmhgaaDoorBellFixed
import Derived.Test.YtbepfmcaolmhgaaDoorInts
namespace Go.Proofs.YtbepfmcaolmhgaaDoor
open Go.RowKit
set_option linter.unusedVariables false

theorem start_ranged2 {n : Nat} : ∀ k t, k < n → t < n → 0 ≤ startF t k ∧ startF t k ≤ 16 := fun k t hk _ => startF_ranged t n k hk

theorem NobT.alloc {w : World} (h : NobT w) (o : Obj) : NobT (w.alloc o) := h.keep ((Below.refl _ _).alloc (Nat.le_refl _) o)

set_option maxRecDepth 100000 in
set_option maxHeartbeats 1000000 in
theorem lined_walk (w : World) (hN : NobT w) :
    Calls Tryd.prog 9 #[] w fun e w' => e = .returned (.bool true) ∧ Below w.heap.size w w' := by
  have HN := Lib.hid hN
  clear hN
  go_enter Tryd.func9, Tryd.ntmps9
  go_wp2_with fail
  have hcall := lineNew_ok 2 2 rfl (some ⟨w.heap.size, 0, none⟩) 1 1 true (fun _ => 0) (fun _ => 1) (fun _ => 3) _ (HN.out.alloc _) (lnk_lit w) (by omega) good_lit
  refine hcall.mono ?_
  clear hcall
  rintro e w1 ⟨s, rfl, hL, hb1⟩
  have HL := Lib.hid hL
  have HB1 : Hid (Below w.heap.size w w1) := keepAlloc (Below.refl _ _) hb1
  clear hL hb1
  go_wp2_with fail
  have hcall := lineStep s 2 1 _ true (fun _ => 0) (fun _ => 1) (fun _ => 3) _ _ w1 (HN.out.keep HB1.out) HL.out (by omega) (by omega) (by omega) right_lit start_ranged2 (by have := HB1.out.size; have := HL.out; obtain ⟨_, _, _, _, _, _, h⟩ := this; have := h.blk.lt; have := h.lo; omega)
  refine hcall.mono ?_
  clear hcall
  rintro e w2 ⟨rfl, hL2, hb2⟩
  have HL2 := Lib.hid hL2
  have HB2 : Hid (Below w.heap.size w w2) := HB1.out.trans (hb2.bel.mono (by simp))
  clear hL2 hb2 HB1 HL
  go_wp2_with fail
  have hcall := lineRow_ok s 2 1 0 0 rfl _ true _ _ _ _ _ w2 HL2.out (by omega) (by omega)
  refine hcall.mono ?_
  clear hcall
  rintro e w3 ⟨v, rfl, hV, hb3⟩
  obtain ⟨A3, c3, rfl, hv3⟩ := hV.vec
  have HV3 := Lib.hid hv3
  have HB3 := Lib.hid (keep HB2.out hb3)
  clear hV hv3 hb3 HB2 HL2
  go_wp2_with fail
  have hcall := ints_walk A3 (some ⟨w3.heap.size, 0, none⟩) 2 2 c3 2 _ (fun i => if i = 0 then 0 else 3) _ (HV3.out.keep ((Below.refl _ _).alloc (Nat.le_refl _) (.cells #[.int .i64 0, .int .i64 3] 3)))
    (fun j hj => ⟨_, rfl, (Blk.new w3 3 #[.int .i64 0, .int .i64 3]).lt, by
      rw [Addr.add_lit, (Blk.new w3 3 #[.int .i64 0, .int .i64 3]).cell]
      have h : j = 0 ∨ j = 1 := by omega
      rcases h with rfl | rfl <;> rfl⟩) (by omega) (by omega) true ⟨fun _ => ⟨rfl, fun i hi => by
      have h : i = 0 ∨ i = 1 := by omega
      rcases h with rfl | rfl <;> decide⟩, fun _ => rfl⟩
  refine hcall.mono ?_
  clear hcall
  rintro e w4 ⟨rfl, k4, rfl⟩
  go_wp2_with fail
  go_ret
  exact ⟨rfl, below_drewN (HB3.out.alloc HB3.out.size _) _⟩

end Go.Proofs.YtbepfmcaolmhgaaDoor

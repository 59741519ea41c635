/- The wheel: check, slot, New: the walks. -/
import Derived.Test.YtfdldjlaedfllaaDoorWhMem
import Derived.Test.YtfdldjlaedfllaaDoorBase
namespace Go.Proofs.YtfdldjlaedfllaaDoor
open Go.RowKit Go.Maps
set_option linter.unusedVariables false

set_option maxRecDepth 100000 in
set_option maxHeartbeats 1000000 in
theorem wcheck_ok (i : Nat) (hi : i < 64) (w : World) : Calls Tryd.prog 22 #[.int .i64 i] w fun e w' => e = .returned .nilIface ∧ w' = w := by
  have h1 : ¬ (i : Int) < 0 := by omega
  have h2 : (i : Int) < 64 := by omega
  go_enter Tryd.func22, Tryd.ntmps22
  go_wp2_with fail
  go_ret
  exact ⟨rfl, rfl⟩

set_option maxRecDepth 100000 in
set_option maxHeartbeats 1000000 in
theorem wcheck_bad (x : Int) (hx : x < 0 ∨ 64 ≤ x) (w : World) : Calls Tryd.prog 22 #[.int .i64 x] w fun e w' => e = .returned (errNo 1) ∧ w' = w := by
  rcases hx with h | h
  · go_enter Tryd.func22, Tryd.ntmps22
    go_wp2_with fail
    go_ret
    exact ⟨rfl, rfl⟩
  · have h1 : ¬ x < 0 := by omega
    go_enter Tryd.func22, Tryd.ntmps22
    go_wp2_with fail
    go_ret
    exact ⟨rfl, rfl⟩

set_option maxRecDepth 100000 in
set_option maxHeartbeats 1000000 in
theorem slot_walk (p s : Nat) (x : Int) (hx : 0 ≤ x) (hs : x % 64 = s) (w : World) :
    Calls Tryd.prog 23 #[.pointer (some ⟨p, 0, none⟩), .int .i64 x] w fun e w' => e = .returned (.pointer (some ⟨p, 1 + s, none⟩)) ∧ w' = w := by
  have h64 : s < 64 := by omega
  have ht : x.tmod 64 = s := by rw [Int.tmod_eq_emod_of_nonneg hx]; exact hs
  clear hx hs
  go_enter Tryd.func23, Tryd.ntmps23
  go_wp2_with fail
  go_ret
  exact ⟨rfl, rfl⟩

theorem zero_slots : (List.range 64).map (fun s => Tryd.zeroCells49[1 + s]?) = List.replicate 64 (some (.map none)) := by kernel_rfl
theorem zero_slot (s : Nat) (hs : s < 64) : Tryd.zeroCells49[1 + s]? = some (.map none) := by
  have h : ((List.range 64).map (fun s => Tryd.zeroCells49[1 + s]?))[s]? = (List.replicate 64 (some (Value.map none)))[s]? := by rw [zero_slots]
  rw [List.getElem?_map, List.getElem?_range hs, List.getElem?_replicate, if_pos hs] at h
  simpa using h

set_option maxRecDepth 100000 in
set_option maxHeartbeats 1000000 in
theorem wnew_walk (w : World) : Calls Tryd.prog 7 #[] w fun e w' => ∃ p F, e = .returned (.pointer (some ⟨p, 0, none⟩)) ∧ Wh w' F p 0 0 (fun _ => 0) ∧ (∀ k, F k → w.heap.size ≤ k) ∧ Below w.heap.size w w' := by
  have hmm := @run_makeMap Tryd.prog
  go_enter Tryd.func7, Tryd.ntmps7
  go_wp2_with fail
  go_ret
  refine ⟨w.heap.size + 1, Foot (w.heap.size + 1) w.heap.size (fun _ => none), rfl, ⟨w.heap.size, fun _ => none, ?_, fun k => Iff.rfl⟩, ?_, ((Below.refl _ _).alloc (Nat.le_refl _) _).alloc (by simp) _⟩
  · have hb := Blk.new (w.alloc (.map #[] 0)) 49 (Tryd.zeroCells49.setIfInBounds 65 (.map (some w.heap.size)))
    rw [World.size_alloc] at hb
    refine ⟨?_, ?_, fun s hs => ?_, fun j => ?_, ?_, ?_, ?_, ?_, ?_⟩
    · rw [hb.cell]
      rfl
    · rw [hb.cell]
      exact Array.getElem?_setIfInBounds_self_of_lt (by rw [show Tryd.zeroCells49.size = 66 by kernel_rfl]; omega)
    · rw [hb.cell, Array.getElem?_setIfInBounds_ne (by omega)]
      exact zero_slot s hs
    · exact hb.frozen j
    · exact (MapD.made w).same (Below.heap_alloc _ _ _ (by simp))
    · intro s hs _ i hi
      simp [slotD]
    · intro s b _ h
      cases h
    · intro s _ h
      cases h
    · intro s t b _ _ h
      cases h
  · rintro k (rfl | rfl | ⟨s, _, h⟩)
    · omega
    · omega
    · cases h

end Go.Proofs.YtfdldjlaedfllaaDoor

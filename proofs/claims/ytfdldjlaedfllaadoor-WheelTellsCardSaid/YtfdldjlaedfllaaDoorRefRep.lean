/- The walk of the reference's Repeat. -/
import Derived.Test.YtfdldjlaedfllaaDoorOwnV
namespace Go.Proofs.YtfdldjlaedfllaaDoor
open Go.RowKit
set_option linter.unusedVariables false

set_option maxRecDepth 100000 in
set_option maxHeartbeats 1000000 in
theorem refRepeat_walk (z : Int) (n : Nat) (x : Int) (hx : x = (n : Int)) (w : World) (hn : n ≤ 1000000) :
    Calls Tryd.prog 8 #[.int .i64 z, .int .i64 x] w fun e w' => ∃ v, e = .returned v ∧ OwnV w' w.heap.size v n (fun _ => z) ∧ Below w.heap.size w w' := by
  subst hx
  have hn' : (n : Int) ≤ 1000000 := by omega
  go_enter Tryd.func8, Tryd.ntmps8
  go_wp2_with fail
  go_loopw [5, 6] (fun v i wr => ∃ q : Nat, q ≤ n ∧ i = .int .i64 q ∧ OwnV wr w.heap.size v q (fun _ => z) ∧ Below w.heap.size w wr) (fun _ i _ => n - (intOf i).toNat)
  case atStart => exact ⟨0, by omega, rfl, OwnV.nil _ _ _, Below.refl _ _⟩
  case round =>
    obtain ⟨q, hq, rfl, hT, hb⟩ := hrel
    have HT := Lib.hid hT
    have HB := Lib.hid hb
    clear hT hb
    by_cases hlt : q < n
    · have hlt' : (q : Int) < n := by omega
      go_wp2_with (at_builtin; refine wpList_append_int rfl (.tmp 12) (.tmp 14) rfl w.heap.size _ q _ rfl (HT.out.alloc _) z ⟨wr.heap.size, 0, none⟩ rfl (cell_new_at _ _ _ rfl) (by omega) (by have := HB.out.size; simp; omega) ?_)
      intro g cap w6 hV6 hb6 _ _
      have HV6 := Lib.hid (hV6.congr (f' := fun _ => z) fun j hj => by
        unfold upd
        split <;> rfl)
      have HB6 := Lib.hid ((HB.out.alloc HB.out.size _).trans hb6)
      clear hV6 hb6
      go_wp2_with fail
      go_roundw
      case rel => exact ⟨q + 1, by omega, by go_num, HV6.out, HB6.out⟩
      case measure => simp [intOf]; omega
    · obtain rfl : q = n := by omega
      go_wp2_with fail
      go_ret
      exact ⟨_, rfl, HT.out, HB.out⟩

end Go.Proofs.YtfdldjlaedfllaaDoor

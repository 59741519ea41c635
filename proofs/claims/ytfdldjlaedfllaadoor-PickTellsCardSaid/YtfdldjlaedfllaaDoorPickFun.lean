/- slices.SortedFunc(slices.Values(s), closure): the walk. -/
import Derived.Test.YtfdldjlaedfllaaDoorPickColl
import Derived.Test.YtfdldjlaedfllaaDoorPickSorted
namespace Go.Proofs.YtfdldjlaedfllaaDoor
open Go.Shelf Go.RowKit Go.Lib Go.Sort
set_option linter.unusedVariables false

theorem collect_vals (Bs : Nat) (sv : Value) (zs : List Int) (w : World) (hreach : zs.length * 8 ≤ 140737488355328) (hBs : Bs < w.heap.size)
    (hc : w.cell? ⟨Bs, 0, none⟩ = some sv) (hI : Vals.Ints w.heap.size w sv zs) :
    Calls Tryd.prog 27 #[.func (.func 43) #[] #[.pointer (some ⟨Bs, 0, none⟩)]] w fun e w' => ∃ v, e = .returned v ∧ w'.ownsRow w.heap.size 3 1 v zs.length (zs.map encZ) ∧ Go.RowKit.Below w.heap.size w w' := by
  have eg : ∀ args w, (callFunc 43 args).run Tryd.prog w = .ok (.enter 43 args) w := fun args w => enters_go Tryd.func43 (by kernel_rfl) (by kernel_rfl) args w
  refine (callsIn_wide (n := 4)).1 ((Ap.collect Fence.wide 4 trivial trivial rfl (by omega) _ _ trivial eg (fun ys => ys = zs) zs.length (by unfold maxLen; omega) (by omega) w (Vals.gives Fence.wide (4 - 1 - 1) trivial rfl (by omega) Bs sv zs hreach w hBs hc hI)).mono ?_)
  rintro e w' ⟨v, ss, rfl, rfl, hr, -, hb⟩
  exact ⟨v, rfl, hr, hb⟩

/-- An own row that is not empty, as the sort wants it. -/
theorem holds_own {w : World} {base : Nat} {v : Value} {zs : List Int} (h0 : zs ≠ []) (h : w.ownsRow base 3 1 v zs.length (zs.map encZ)) : ∃ g cap, v = .slice (some ⟨g, 0, none⟩) zs.length cap ∧ base ≤ g ∧ g < w.heap.size ∧ Holds (Value.int .i64) w g 0 zs.toArray := by
  rcases h.2 with ⟨_, hn⟩ | ⟨g, cap, cur, hv, hb, hg, hnc, hcm, hcs, htake⟩
  · exact absurd (List.eq_nil_of_length_eq_zero hn) h0
  · refine ⟨g, cap, hv, hb, (Array.getElem?_eq_some_iff.1 hg).1, fun j hj => ?_⟩
    have hj' : j < zs.length := by simpa using hj
    have e2 : (cur.toList.take (zs.length * 1))[j]? = (zs.map encZ)[j]? := by rw [htake]
    rw [List.getElem?_take, if_pos (by omega)] at e2
    have e3 : cur[j]? = some (.int .i64 zs[j]) := by simpa [hj', encZ] using e2
    refine ⟨?_, ?_⟩
    · rw [Nat.zero_add]
      simp [World.cell?, hg, e3, hj']
    · simp [World.frozen?, hg]

end Go.Proofs.YtfdldjlaedfllaaDoor

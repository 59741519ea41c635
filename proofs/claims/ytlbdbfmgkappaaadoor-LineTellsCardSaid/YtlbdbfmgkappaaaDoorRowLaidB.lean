/- A card's row that lists package errors' own variable and line's variable nobody; a world that meets that. -/
import Derived.Test.YtlbdbfmgkappaaaDoorRowLaid
import Derived.Test.YtlbdbfmgkappaaaDoorRowLaidN
namespace Go.Proofs.YtlbdbfmgkappaaaDoor
open Go.ChangeShapes Go.WideShapes Go.RowKit

/-- What the rows list. -/
def laidB : List (String × DataW Unit) := [("errors.errorType", Rows.laid_errors_errorType), ("waywarden/line.nobody", Rows.laid_waywarden_line_nobody)]

theorem bothT_of_laid {W : World} (h : laidMetH Tryd.prog laidB W) : ErrT W ∧ NobT W := by
  have h' : laidMet Tryd.prog [("waywarden/line.nobody", Rows.laid_waywarden_line_nobody)] W ∧ handlesMet Tryd.prog laidE W := h
  have h2 : laidMetH Tryd.prog laidE W := (show laidMet Tryd.prog [] W ∧ handlesMet Tryd.prog laidE W from ⟨laidMet_nil _ _, h'.2⟩)
  exact ⟨errT_of_laid h2, nobT_of_reads (Lib.laidMet.reads h'.1 (List.mem_singleton.2 rfl))⟩

/-- A world that meets the condition: the settled one, the variables' cells laid. -/
noncomputable def laidWorldB (os : Os) : World :=
  let w0 := World.holding Tryd.prog os ⟨#[], #[], []⟩
  let w1 : World := { w0 with heap := w0.heap.modify 1 fun
      | .cells _ t frozen => .cells #[.iface 158 (.agg #[.pointer (some ⟨2, 25, none⟩)])] t frozen
      | o => o }
  { w1 with heap := w1.heap.modify 0 fun
      | .cells _ t frozen => .cells #[.int .i64 16, .int .i64 (-1)] t frozen
      | o => o }
theorem laidWorldB_met (os : Os) (args : Array Value) : laidMetH Tryd.prog laidB ((laidWorldB os).forCall (fun _ _ => 0) ⟨#[], args, []⟩).memory :=
  laidMetH_of_parts (laidMet_of_run (ps := [.cell 0 0, .cell 0 1]) 8 (by kernel_rfl) (by kernel_rfl) (by kernel_rfl)) (by kernel_rfl)

end Go.Proofs.YtlbdbfmgkappaaaDoor

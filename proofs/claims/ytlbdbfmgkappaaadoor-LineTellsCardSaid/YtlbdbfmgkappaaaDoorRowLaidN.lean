/- A card's row that lists line's variable nobody: what it holds; a world that meets that. -/
import Derived.Test.YtlbdbfmgkappaaaDoorRow
import Derived.Test.YtlbdbfmgkappaaaDoorLineMem
import Derived.ChangeVars
import Derived.JoinedOf
import Derived.LaidLaws
import Derived.LaidHandle
import Derived.Stop.Joined
import Derived.Lib.LaidU8
namespace Go.Proofs.YtlbdbfmgkappaaaDoor
open Go.ChangeShapes Go.WideShapes Go.RowKit

theorem nobG : Tryd.prog.globalNamed "waywarden/line.nobody" = some 0 := by kernel_rfl
theorem nobT : (Tryd.prog.globals[(0 : Nat)]?).map (·.type) = some 94 := by kernel_rfl
theorem thC : Tryd.prog.cellsOf 94 = 2 := by kernel_rfl
theorem thF : ∃ f0 f1 : Field, Tryd.prog.underlying 94 = some (.struct #[f0, f1]) ∧ f0.type = 3 ∧ f0.offset = 0 ∧ f1.type = 3 ∧ f1.offset = 1 := ⟨_, _, Tryd.underlying94, rfl, rfl, rfl, rfl⟩
theorem intC : Tryd.prog.cellsOf 3 = 1 := by kernel_rfl

/-- What the rows list. -/
def laidN : List (String × DataW Unit) := [("waywarden/line.nobody", Rows.laid_waywarden_line_nobody)]

theorem nobT_of_reads {W : World} (h : Lib.VarReads Tryd.prog W "waywarden/line.nobody" Rows.laid_waywarden_line_nobody) : NobT W := by
  obtain ⟨g, t, cs, fuel, p, e1, e2, e3, e4⟩ := h
  obtain rfl := Option.some.inj (nobG.symm.trans e1)
  obtain rfl := Option.some.inj (nobT.symm.trans e2)
  obtain ⟨f0, f1, hu, h0, h1, h2, h3⟩ := thF
  have hcs := Lib.ints_of_struct (k := .i64) (zs := [16, -1]) hu (fun i f hf => by
    have hi : i = 0 ∨ i = 1 := by
      have := (Array.getElem?_eq_some_iff.1 hf).1
      simp at this
      omega
    rcases hi with rfl | rfl
    · have e : f0 = f := by simpa using hf
      subst e
      exact ⟨by rw [h0]; exact Tryd.underlying3, h1, by rw [h0]; exact intC⟩
    · have e : f1 = f := by simpa using hf
      subst e
      exact ⟨by rw [h2]; exact Tryd.underlying3, h3, by rw [h2]; exact intC⟩) thC e4
  have hcs' : cs = #[.int .i64 16, .int .i64 (-1)] := by
    apply Array.toList_inj.1
    rw [hcs]
    rfl
  subst hcs'
  exact ⟨by simpa using World.var?_cell nobG e3 0, by simpa using World.var?_cell nobG e3 1⟩

theorem nobT_of_laid {W : World} (h : laidMetH Tryd.prog laidN W) : NobT W := by
  have h' : laidMet Tryd.prog laidN W := h
  exact nobT_of_reads (Lib.laidMet.reads h' (List.mem_singleton.2 rfl))

/-- A world that meets the condition: the settled one, the variable's cells laid. -/
noncomputable def laidWorldN (os : Os) : World :=
  let w0 := World.holding Tryd.prog os ⟨#[], #[], []⟩
  { w0 with heap := w0.heap.modify 0 fun
      | .cells _ t frozen => .cells #[.int .i64 16, .int .i64 (-1)] t frozen
      | o => o }
theorem laidWorldN_met (os : Os) (args : Array Value) : laidMetH Tryd.prog laidN ((laidWorldN os).forCall (fun _ _ => 0) ⟨#[], args, []⟩).memory :=
  laidMetH_of_parts (laidMet_of_run (ps := [.cell 0 0, .cell 0 1]) 8 (by kernel_rfl) (by kernel_rfl) (by kernel_rfl)) (by kernel_rfl)

end Go.Proofs.YtlbdbfmgkappaaaDoor

/- The walks of a line's Step, Row, Next, New. Printed by gen_lineops.py. -/
import Derived.Test.YtminfghiejgieaaDoorLineStep
import Derived.Test.YtminfghiejgieaaDoorOwnV
namespace Go.Proofs.YtminfghiejgieaaDoor
open Go.RowKit
set_option linter.unusedVariables false

theorem Blk.ne_row {w : World} {s g : Nat} {t t' : TypeId} {cs : Array Value} {n : Nat} {f : Nat → Value} (h : Blk w s t cs) (h' : RowP w g t' n f) (ht : t ≠ t') : g ≠ s := by
  rintro rfl
  obtain ⟨c, e, _⟩ := h'
  unfold Blk at h
  rw [e] at h
  simp at h
  exact ht h.2.symm

end Go.Proofs.YtminfghiejgieaaDoor

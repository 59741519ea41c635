/- The memory of a line of nodes; what one node tells another one. -/
import Derived.Test.YtminfghiejgieaaDoorLineMath
import Derived.Test.YtminfghiejgieaaDoorPlaces
import Derived.Test.YtminfghiejgieaaDoorRepeat2
import Derived.Test.YtminfghiejgieaaDoorTab
import Derived.Test.YtminfghiejgieaaDoorOwnLk
namespace Go.Proofs.YtminfghiejgieaaDoor
open Go.RowKit
set_option linter.unusedVariables false

theorem RowP.ne_type {w : World} {g g' : Nat} {t t' : TypeId} {n n' : Nat} {f f' : Nat → Value} (h : RowP w g t n f) (h' : RowP w g' t' n' f') (ht : t ≠ t') : g ≠ g' := by
  rintro rfl
  obtain ⟨c, e, _⟩ := h
  obtain ⟨c', e', _⟩ := h'
  rw [e] at e'
  simp at e'
  exact ht e'.2

section
variable {w w' : World} {base base' : Nat} {v : Value} {B C : Nat → Nat} {i n : Nat} {F G F' G' : Nat → Nat → Int}
end

/-- Links in a block of their own; or none. -/
def LkB (w : World) (lo : Nat) (A : Option Addr) (m : Nat) (a b c : Nat → Int) : Prop := m = 0 ∨ ∃ g, A = some ⟨g, 0, none⟩ ∧ lo ≤ g ∧ RowP w g 69 (m * 3) (linkC a b c)
theorem LkB.lnk {w : World} {lo : Nat} {A : Option Addr} {m : Nat} {a b c : Nat → Int} (h : LkB w lo A m a b c) : Lnk w A m a b c := by
  rcases h with rfl | ⟨g, rfl, -, hr⟩
  · exact fun i hi => absurd hi (by omega)
  · exact hr.lnk

section
variable {w w' : World} {lo s : Nat} {po : Bool} {lA : Option Addr} {lc gr gc : Nat} {B C : Nat → Nat} {n m : Nat} {a b c : Nat → Int} {F G F' G' : Nat → Nat → Int}
end

end Go.Proofs.YtminfghiejgieaaDoor

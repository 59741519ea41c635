/- The walk of waywardenref2.Once: is each number of a list there once? -/
import Derived.Test.YtfdldjlaedfllaaIn
import Derived.Test.YtfdldjlaedfllaaInts
namespace Go.Proofs.Ytfdldjlaedfllaa
open Go.RowKit
set_option linter.unusedVariables false

/-- No number twice. -/
def OnceV (n : Nat) (f : Nat → Int) : Prop := ∀ i, i < n → ∀ j, j < i → f j ≠ f i

theorem Vec.less {w : World} {A : Option Addr} {n m : Nat} {f : Nat → Int} (h : Vec w A n f) (hm : m ≤ n) : Vec w A m f := fun j hj => h j (by omega)

end Go.Proofs.Ytfdldjlaedfllaa

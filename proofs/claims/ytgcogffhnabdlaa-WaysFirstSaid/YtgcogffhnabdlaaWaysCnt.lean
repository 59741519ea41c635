/- ways.Count's closure: how many shortest ways lead on from a node, each known but once. -/
import Derived.Test.YtgcogffhnabdlaaWaysLaw
import Derived.Maps.OwnSet
namespace Go.Proofs.Ytgcogffhnabdlaa
open Go.RowKit Go.Maps
set_option linter.unusedVariables false

theorem keyedW : Keyed Try.prog 3 := int_keyed Try.underlying3
theorem zeroW (w : World) : (zeroValue 3).run Try.prog w = .ok (.int .i64 0) w := by kernel_rfl

section
variable {wv w w' : World} {bk bx bc bm n t N : Nat} {v : Value} {W : Nat → Int}
end

theorem listS_bound {W : Nat → Int} (l : List Int) {B : Int} (h : ∀ a, 0 ≤ W a ∧ W a ≤ B) : ∀ r : Nat, 0 ≤ listS l W r ∧ listS l W r ≤ r * B
  | 0 => ⟨Int.le_refl _, by simp [listS]⟩
  | r + 1 => by
    have h1 := listS_bound l h r
    have h2 := h (atL l r).toNat
    unfold listS
    rw [Int.natCast_add, Int.add_mul]
    omega

end Go.Proofs.Ytgcogffhnabdlaa

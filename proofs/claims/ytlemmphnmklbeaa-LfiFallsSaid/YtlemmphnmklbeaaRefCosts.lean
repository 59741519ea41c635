/- The walk of the reference's CostsOf. -/
import Derived.Test.YtlemmphnmklbeaaCosts
import Derived.Test.YtlemmphnmklbeaaOwnV
namespace Go.Proofs.Ytlemmphnmklbeaa
open Go.RowKit
set_option linter.unusedVariables false

theorem OwnV.row {w : World} {base n : Nat} {v : Value} {f : Nat → Int} (h1 : 1 ≤ n) (h : OwnV w base v n f) : ∃ g c, v = .slice (some ⟨g, 0, none⟩) n c ∧ base ≤ g ∧ RowP w g 3 n fun i => .int .i64 (f i) := by
  rcases h.form with ⟨rfl, -⟩ | ⟨g, c, e, hb, -, -, hr⟩
  · omega
  · exact ⟨g, c, e, hb, hr⟩

theorem RowP.congrI {w : World} {g n : Nat} {f f' : Nat → Int} (h : RowP w g 3 n fun i => .int .i64 (f i)) (e : ∀ i, i < n → f i = f' i) : RowP w g 3 n fun i => .int .i64 (f' i) :=
  h.congr fun i hi => by rw [e i hi]

end Go.Proofs.Ytlemmphnmklbeaa

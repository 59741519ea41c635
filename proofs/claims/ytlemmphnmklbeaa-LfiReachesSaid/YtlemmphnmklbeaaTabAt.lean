/- A table of the call's own, whose rows are written in place; slices.Clone of a slice of ints. -/
import Derived.Test.YtlemmphnmklbeaaTab
import Derived.Test.YtlemmphnmklbeaaOwnV
import Derived.Test.YtlemmphnmklbeaaTail
import Derived.Lib.SliceRun
namespace Go.Proofs.Ytlemmphnmklbeaa
open Go.RowKit
set_option linter.unusedVariables false

/-- Rows 0 to i, n numbers each; row r is the block B r, of capacity C r. -/
structure TabAt (w : World) (base : Nat) (v : Value) (B C : Nat → Nat) (i n : Nat) (f : Nat → Nat → Int) : Prop where
  own : w.ownsRow base 23 1 v i ((List.range i).map fun r => .slice (some ⟨B r, 0, none⟩) n (C r))
  row : ∀ r, r < i → base ≤ B r ∧ RowP w (B r) 3 n fun j => .int .i64 (f r j)
  inj : ∀ r s, r < i → s < i → B r = B s → r = s

theorem Tab.at_ {w : World} {base : Nat} {v : Value} {i n : Nat} {f : Nat → Nat → Int} (h : Tab w base v i n f) : ∃ B C, TabAt w base v B C i n f := by
  obtain ⟨B, C, h1, h2, h3⟩ := h
  exact ⟨B, C, h1, h2, h3⟩

section
variable {w w' : World} {base : Nat} {v : Value} {B C : Nat → Nat} {i n : Nat} {f f' : Nat → Nat → Int}
theorem TabAt.tab (h : TabAt w base v B C i n f) : Tab w base v i n f := ⟨B, C, h.own, h.row, h.inj⟩
theorem TabAt.drewN (h : TabAt w base v B C i n f) (k : Nat) : TabAt (w.drewN k) base v B C i n f := ⟨h.own, fun r hr => ⟨(h.row r hr).1, (h.row r hr).2.drewN k⟩, h.inj⟩
theorem TabAt.drew (h : TabAt w base v B C i n f) : TabAt w.drew base v B C i n f := h.drewN 1
theorem TabAt.same (h : TabAt w base v B C i n f) (hs : ∀ b, base ≤ b → b < w.heap.size → w'.heap[b]? = w.heap[b]?) : TabAt w' base v B C i n f :=
  ⟨ownsRow_same h.own hs, fun r hlt => ⟨(h.row r hlt).1, (h.row r hlt).2.of_block (hs _ (h.row r hlt).1 (h.row r hlt).2.lt)⟩, h.inj⟩
theorem TabAt.below (h : TabAt w base v B C i n f) (hb : Below w.heap.size w w') : TabAt w' base v B C i n f := h.same fun b _ hlt => hb.block b hlt
theorem TabAt.congr (h : TabAt w base v B C i n f) (e : ∀ r j, r < i → j < n → f r j = f' r j) : TabAt w base v B C i n f' :=
  ⟨h.own, fun r hr => ⟨(h.row r hr).1, (h.row r hr).2.congr fun j hj => by rw [e r j hr hj]⟩, h.inj⟩
/-- Where it lies, and what its cells are. -/
theorem TabAt.cells (h1 : 1 ≤ i) (h : TabAt w base v B C i n f) : ∃ g c, v = .slice (some ⟨g, 0, none⟩) i c ∧ base ≤ g ∧ g < w.heap.size ∧ (∀ r, r < i → w.cell? ⟨g, r, none⟩ = some (.slice (some ⟨B r, 0, none⟩) n (C r))) ∧ ∀ r, r < i → g ≠ B r := by
  obtain ⟨g, c, rfl, hgb, hgl, hcell⟩ := ownsRow_cell h1 h.own
  refine ⟨g, c, rfl, hgb, hgl, hcell, fun r hr e => ?_⟩
  rcases h.own.2 with ⟨hv, _⟩ | ⟨g', cap, cur, hv, hb, hg, _⟩
  · cases hv
  · have e' : g = g' := by
      simp only [Value.slice.injEq, Option.some.injEq, Addr.mk.injEq] at hv
      exact hv.1.1
    subst e'
    obtain ⟨cs, hcs, _⟩ := (h.row r hr).2
    rw [← e, hg] at hcs
    simp at hcs
/-- A store into a row. -/
theorem TabAt.set (h : TabAt w base v B C i n f) {r : Nat} (hr : r < i) (k : Nat) (x : Int) : TabAt (w.setCell ⟨B r, k, none⟩ (.int .i64 x)) base v B C i n (fun p q => if p = r ∧ q = k then x else f p q) := by
  obtain ⟨g, c, hv, _, _, _, hne⟩ := h.cells (show 1 ≤ i by omega)
  refine ⟨⟨h.own.1, ?_⟩, fun s hs => ⟨(h.row s hs).1, ?_⟩, h.inj⟩
  · rcases h.own.2 with h' | ⟨g', cap, cur, hv', hb, hg, hrest⟩
    · exact .inl h'
    · have e' : g = g' := by
        rw [hv] at hv'
        simp only [Value.slice.injEq, Option.some.injEq, Addr.mk.injEq] at hv'
        exact hv'.1.1
      subst e'
      exact .inr ⟨g, cap, cur, hv', hb, (Below.heap_setCell w ⟨B r, k, none⟩ _ g (hne r hr)).trans hg, hrest⟩
  · by_cases e : s = r
    · subst e
      refine ((h.row s hs).2.set k (.int .i64 x)).congr fun j hj => ?_
      unfold upd
      by_cases ej : j = k
      · subst ej; simp
      · rw [if_neg ej, if_neg (by omega)]
    · refine ((h.row s hs).2.setOther (a := ⟨B r, k, none⟩) (fun e' => e (h.inj s r hs hr e')) _).congr fun j hj => ?_
      rw [if_neg (by omega)]
end

end Go.Proofs.Ytlemmphnmklbeaa

/- Links in a block of the call's own: slices.Clone, the closure of graph.Cut, slices.IndexFunc, slices.DeleteFunc of links. -/
import Derived.Test.YtminfghiejgieaaDoorNear
import Derived.Lib.SliceRun
namespace Go.Proofs.YtminfghiejgieaaDoor
open Go.RowKit
set_option linter.unusedVariables false

/-- A link's cell, by its place in a row of links. -/
def linkC (a b c : Nat → Int) (t : Nat) : Value := .int .i64 (if t % 3 = 0 then a (t / 3) else if t % 3 = 1 then b (t / 3) else c (t / 3))

theorem linkC0 (a b c : Nat → Int) (i : Nat) : linkC a b c (i * 3) = .int .i64 (a i) := by
  unfold linkC
  rw [if_pos (by omega), show i * 3 / 3 = i by omega]
theorem linkC1 (a b c : Nat → Int) (i : Nat) : linkC a b c (i * 3 + 1) = .int .i64 (b i) := by
  unfold linkC
  rw [if_neg (by omega), if_pos (by omega), show (i * 3 + 1) / 3 = i by omega]
theorem linkC2 (a b c : Nat → Int) (i : Nat) : linkC a b c (i * 3 + 2) = .int .i64 (c i) := by
  unfold linkC
  rw [if_neg (by omega), if_neg (by omega), show (i * 3 + 2) / 3 = i by omega]

theorem RowP.lnk {w : World} {g m : Nat} {a b c : Nat → Int} (h : RowP w g 69 (m * 3) (linkC a b c)) : Lnk w (some ⟨g, 0, none⟩) m a b c := by
  intro i hi
  refine ⟨_, rfl, h.lt, ?_, ?_, ?_⟩
  · rw [Addr.add_lit, Nat.zero_add, h.cell (show i * 3 < m * 3 by omega), linkC0]
  · rw [Addr.add_lit, Nat.zero_add, h.cell (show i * 3 + 1 < m * 3 by omega), linkC1]
  · rw [Addr.add_lit, Nat.zero_add, h.cell (show i * 3 + 2 < m * 3 by omega), linkC2]

/-- The cells of links, as an append wants them. -/
theorem Lnk.news {w : World} {ad : Addr} {m : Nat} {a b c : Nat → Int} (h : Lnk w (some ad) m a b c) : ∀ j u, ((List.range (m * 3)).map (linkC a b c))[j]? = some u → w.cell? (ad.add j) = some u := by
  intro j u hu
  have hj : j < m * 3 := by
    rcases Nat.lt_or_ge j (m * 3) with hlt | hge
    · exact hlt
    · rw [List.getElem?_eq_none (by simpa using hge)] at hu
      cases hu
  have hu' : linkC a b c j = u := by simpa [hj] using hu
  subst hu'
  obtain ⟨ad', e, -, h0, h1, h2⟩ := h (j / 3) (by omega)
  injection e with e
  subst e
  rcases (show j = j / 3 * 3 ∨ j = j / 3 * 3 + 1 ∨ j = j / 3 * 3 + 2 by omega) with e | e | e
  · rw [e, linkC0]; exact h0
  · rw [e, linkC1]; exact h1
  · rw [e, linkC2]; exact h2

theorem infoLink : (Tryd.prog.info? 69).map (fun i => (i.zero, i.size, i.bytes)) = some (some (.agg #[.int .i64 0, .int .i64 0, .int .i64 0]), 3, 24) := by kernel_rfl

/-- An own row of links, told by the index. -/
theorem RowP.of_own_links {w : World} {base g m cap : Nat} {f : Nat → Value} (h : w.ownsRow base 69 3 (.slice (some ⟨g, 0, none⟩) m cap) m ((List.range (m * 3)).map f)) : base ≤ g ∧ m ≤ cap ∧ RowP w g 69 (m * 3) f := by
  rcases h.2 with ⟨h', _⟩ | ⟨g', cap', cur, h', hb, hg, hnc, _, hcs, htake⟩
  · cases h'
  · simp only [Value.slice.injEq, Option.some.injEq, Addr.mk.injEq, and_true, true_and] at h'
    obtain ⟨rfl, rfl⟩ := h'
    refine ⟨hb, hnc, cur, hg, by rw [hcs]; exact Nat.mul_le_mul_right 3 hnc, fun i hi => ?_⟩
    have e : (cur.toList.take (m * 3))[i]? = ((List.range (m * 3)).map f)[i]? := by rw [htake]
    rw [List.getElem?_take, if_pos (by omega)] at e
    simpa [hi] using e

/-- Is the link between both? -/
def mtB (x y u v : Int) : Bool := decide ((x = u ∧ y = v) ∨ (x = v ∧ y = u))

theorem mtB_yes {a b : Nat → Int} {j : Nat} {u v : Int} (h : Mt a b j u v) : mtB (a j) (b j) u v = true := decide_eq_true h
theorem mtB_no {a b : Nat → Int} {j : Nat} {u v : Int} (h : ¬ Mt a b j u v) : mtB (a j) (b j) u v = false := decide_eq_false h

/-- A link's cells, in the row's own spelling. -/
theorem RowP.link_cells {w : World} {g m : Nat} {a b c : Nat → Int} (h : RowP w g 69 (m * 3) (linkC a b c)) {i : Nat} (hi : i < m) :
    w.cell? ⟨g, i * 3, none⟩ = some (.int .i64 (a i)) ∧ w.cell? ⟨g, i * 3 + 1, none⟩ = some (.int .i64 (b i)) ∧ w.cell? ⟨g, i * 3 + 2, none⟩ = some (.int .i64 (c i)) :=
  ⟨by rw [h.cell (show i * 3 < m * 3 by omega), linkC0], by rw [h.cell (show i * 3 + 1 < m * 3 by omega), linkC1], by rw [h.cell (show i * 3 + 2 < m * 3 by omega), linkC2]⟩

end Go.Proofs.YtminfghiejgieaaDoor

/- Words for a slice of bools. -/
import Derived.Test.YtlbdbfmgkappaaaRow
import Derived.Test.YtlbdbfmgkappaaaMem
import Derived.Deep.Grids
namespace Go.Proofs.Ytlbdbfmgkappaaa
open Go.ChangeShapes Go.WideShapes Go.RowKit Go.Deep

/-- The slice at A reads, element by element, as f; it lies in what is there. -/
def VecB (w : World) (A : Option Addr) (n : Nat) (f : Nat → Bool) : Prop :=
  ∀ j, j < n → ∃ ad, A = some ad ∧ ad.block < w.heap.size ∧ w.cell? (ad.add j) = some (.bool (f j))

theorem VecB.keep {w w' : World} {A : Option Addr} {n : Nat} {f : Nat → Bool} (h : VecB w A n f) (hb : Below w.heap.size w w') : VecB w' A n f := by
  intro j hj
  obtain ⟨ad, rfl, hlt, hc⟩ := h j hj
  exact ⟨ad, rfl, Nat.lt_of_lt_of_le hlt hb.size, (hb.cell (by rw [block_of_add]; exact hlt)).trans hc⟩

section
variable {H : Type} {enc : TypeId × Value → H} {P : Program}
/-- An argument that is a slice of bools. -/
theorem open_vecB {W : World} {t e : TypeId} (ht : P.underlying t = some (.slice e)) (he : P.underlying e = some .bool) (hc : P.cellsOf e = 1) {r : Reach} {b0 : Nat} {v : Value} {d : DataW H} {ps : List MemPlace}
    (hok : Value.okWide P W r b0 t v) (h : DataW.Trod enc P W 0 (fun _ => true) true t v d ps) :
    ∃ (A : Option Addr) (n c : Nat) (f : Nat → Bool), v = .slice A n c ∧ n ≤ c ∧ c ≤ maxLen ∧ VecB W A n f := by
  obtain ⟨a0, len, cap, rfl⟩ := okWide_slice ht hok
  obtain ⟨fuel, hf⟩ := h
  rcases open_bools ht he hc hf with ⟨hcs, hx⟩ | ⟨a, len', cap', B, hcs, _, hl, hm, hx, hcell⟩
  · simp [Value.cells] at hcs
    obtain ⟨rfl, rfl, rfl⟩ := hcs
    exact ⟨none, 0, 0, fun _ => false, rfl, Nat.le_refl _, Nat.zero_le _, fun j hj => absurd hj (by omega)⟩
  · simp [Value.cells] at hcs
    obtain ⟨rfl, rfl, rfl⟩ := hcs
    refine ⟨some a, len, cap, B, rfl, hl, hm, fun j hj => ⟨a, rfl, ?_, hcell j (by omega)⟩⟩
    have := World.block_lt_of_cell? W _ (hcell j (by omega))
    rwa [block_of_add] at this
end

theorem cellsBool : Try.prog.cellsOf 4 = 1 := by kernel_rfl

end Go.Proofs.Ytlbdbfmgkappaaa

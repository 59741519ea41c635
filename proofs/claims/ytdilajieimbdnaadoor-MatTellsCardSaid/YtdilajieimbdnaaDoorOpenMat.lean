/- An argument that is a slice of slices of ints. -/
import Derived.Test.YtdilajieimbdnaaDoorRow
import Derived.Deep.Matrix
namespace Go.Proofs.YtdilajieimbdnaaDoor
open Go.ChangeShapes Go.WideShapes Go.ChangeAt Go.RowKit Go.Deep
set_option linter.unusedVariables false

section
variable {H : Type} {enc : TypeId × Value → H} {P : Program}

theorem open_mat {W : World} {t e q : TypeId} (ht : P.underlying t = some (.slice e)) (he : P.underlying e = some (.slice q)) (hq : P.underlying q = some (.int .i64)) (ce : P.cellsOf e = 1) (cq : P.cellsOf q = 1)
    {r : Reach} {b0 : Nat} {v : Value} {d : DataW H} {ps : List MemPlace}
    (hok : Value.okWide P W r b0 t v) (h : DataW.Trod enc P W 0 (fun _ => true) true t v d ps) :
    ∃ (A : Option Addr) (n c : Nat) (L : Nat → Nat) (f : Nat → Nat → Int), v = .slice A n c ∧ n ≤ 9223372036854775807 ∧ Mat W A n L f ∧ (∀ i, i < n → L i ≤ 9223372036854775807) ∧
      ∀ i j, i < n → j < L i → -9223372036854775808 ≤ f i j ∧ f i j ≤ 9223372036854775807 := by
  obtain ⟨a0, len, cap, rfl⟩ := okWide_slice ht hok
  obtain ⟨fuel, hf⟩ := h
  rcases open_int_rows ht he hq ce cq hf with ⟨hcs, hx⟩ | ⟨a, len', cap', A, L, C, Z, hcs, _, hl, hm, hx, hr⟩
  · simp [Value.cells] at hcs
    obtain ⟨rfl, rfl, rfl⟩ := hcs
    exact ⟨none, 0, 0, fun _ => 0, fun _ _ => 0, rfl, by omega, fun j hj => absurd hj (by omega), fun j hj => absurd hj (by omega), fun i j hj => absurd hj (by omega)⟩
  · simp [Value.cells] at hcs
    obtain ⟨rfl, rfl, rfl⟩ := hcs
    unfold maxLen at *
    refine ⟨some a, len, cap, L, fun i j => (Z i).getD j 0, rfl, by omega, fun i hi => ?_, fun i hi => ?_, fun i j hi hj => ?_⟩
    · obtain ⟨h1, h2, h3, h4, h5, h6, h7⟩ := hr i (by omega)
      refine ⟨a, A i, C i, rfl, ?_, h1, fun j hj => ?_⟩
      · have := World.block_lt_of_cell? W _ h1
        rwa [block_of_add] at this
      · cases hA : A i with
        | none =>
          have := h6 hA
          omega
        | some a' =>
          have h8 := (h7 a' hA).2 j (by omega)
          refine ⟨a', rfl, ?_, h8⟩
          have := World.block_lt_of_cell? W _ h8
          rwa [block_of_add] at this
    · obtain ⟨h1, h2, h3, _⟩ := hr i (by omega)
      show L i ≤ _
      omega
    · obtain ⟨h1, h2, h3, h4, h5, h6, h7⟩ := hr i (by omega)
      have hw := h5 ((Z i).getD j 0) (by
        rw [List.getD_eq_getElem?_getD, List.getElem?_eq_getElem (by omega)]
        exact List.getElem_mem _)
      exact ⟨int_lo hw, int_hi hw⟩
end

theorem cellsRow : Tryd.prog.cellsOf 23 = 1 := by kernel_rfl

end Go.Proofs.YtdilajieimbdnaaDoor

/- An argument that is a slice of links. -/
import Derived.Test.YtminfghiejgieaaDoorRow
import Derived.Test.YtminfghiejgieaaDoorGraph
import Derived.Deep.Slices
namespace Go.Proofs.YtminfghiejgieaaDoor
open Go.ChangeShapes Go.WideShapes Go.ChangeAt Go.RowKit Go.Deep
set_option linter.unusedVariables false

theorem link_fields : ∃ fs, Tryd.prog.underlying 69 = some (.struct fs) ∧ ∀ i, i < 3 → ∃ f, fs[i]? = some f ∧ f.offset = i ∧ f.type = 3 := by
  refine ⟨_, Tryd.underlying69, fun i hi => ?_⟩
  have h : i = 0 ∨ i = 1 ∨ i = 2 := by omega
  rcases h with rfl | rfl | rfl <;> exact ⟨_, rfl, rfl, rfl⟩
theorem link_cells : Tryd.prog.cellsOf 69 = 3 := by kernel_rfl
theorem link_int : Tryd.prog.cellsOf 3 = 1 := by kernel_rfl

section
variable {H : Type} {enc : TypeId × Value → H} {P : Program}

/-- A link's three numbers, where its cells read. -/
theorem link_at {W : World} {e q : TypeId} {base : Nat} {sp : Nat → Bool} {hd : Bool} {fuel : Nat} {cs : List Value} {x : DataW H × List MemPlace} (hF0 : ∃ fs, P.underlying e = some (.struct fs) ∧ ∀ i, i < 3 → ∃ f, fs[i]? = some f ∧ f.offset = i ∧ f.type = q)
    (hq : P.underlying q = some (.int .i64)) (ce : P.cellsOf e = 3) (cq : P.cellsOf q = 1) (h : DataW.trod enc P W base sp hd fuel e cs = some x) : cs.length = 3 ∧ ∀ i, i < 3 → ∃ n, cs[i]? = some (.int .i64 n) ∧ (Lit.int .i64 n).wf = true := by
  obtain ⟨fs, he, hF⟩ := hF0
  obtain ⟨xs, n, -, -, hlen, hxl, hf⟩ := DataW.trod_struct he h
  rw [ce] at hlen
  refine ⟨hlen, fun i hi => ?_⟩
  obtain ⟨f, hfi, ho, ht⟩ := hF i hi
  have h1 := hf i f hfi
  have hlt : i < fs.size := (Array.getElem?_eq_some_iff.1 hfi).1
  rw [ho, ht, cq, List.drop_eq_getElem_cons (by omega), List.take_succ_cons, List.take_zero, List.getElem?_eq_getElem (by omega)] at h1
  obtain ⟨z, e, -, hw⟩ := DataW.trod_int hq h1
  simp only [List.cons.injEq, and_true] at e
  exact ⟨z, by rw [List.getElem?_eq_getElem (by omega), e], hw⟩

theorem open_lnk {W : World} {t e q : TypeId} (ht : P.underlying t = some (.slice e)) (hF0 : ∃ fs, P.underlying e = some (.struct fs) ∧ ∀ i, i < 3 → ∃ f, fs[i]? = some f ∧ f.offset = i ∧ f.type = q) (hq : P.underlying q = some (.int .i64)) (ce : P.cellsOf e = 3) (cq : P.cellsOf q = 1)
    {r : Reach} {b0 : Nat} {v : Value} {d : DataW H} {ps : List MemPlace}
    (hok : Value.okWide P W r b0 t v) (h : DataW.Trod enc P W 0 (fun _ => true) true t v d ps) :
    ∃ (A : Option Addr) (n c : Nat) (a b k : Nat → Int), v = .slice A n c ∧ n ≤ c ∧ c ≤ 9223372036854775807 ∧ Lnk W A n a b k ∧
      ∀ i, i < n → ((Lit.int .i64 (a i)).wf = true ∧ (Lit.int .i64 (b i)).wf = true) ∧ (Lit.int .i64 (k i)).wf = true := by
  obtain ⟨a0, len, cap, rfl⟩ := okWide_slice ht hok
  obtain ⟨fuel, hf⟩ := h
  rcases open_slice ht hf with ⟨hcs, hx⟩ | ⟨ad, len', cap', m, n', D, Pl, hcs, _, hl, hm, hmm, hx, hr⟩
  · simp [Value.cells] at hcs
    obtain ⟨rfl, rfl, rfl⟩ := hcs
    exact ⟨none, 0, 0, fun _ => 0, fun _ => 0, fun _ => 0, rfl, by omega, by omega, fun j hj => absurd hj (by omega), fun j hj => absurd hj (by omega)⟩
  · simp [Value.cells] at hcs
    obtain ⟨rfl, rfl, rfl⟩ := hcs
    unfold maxLen at hm
    simp at hmm
    rw [hmm] at hr
    have key : ∀ i, i < len → ∀ j, j < 3 → ∃ z, W.cell? (ad.add (i * 3 + j)) = some (.int .i64 z) ∧ (Lit.int .i64 z).wf = true := by
      intro i hi j hj
      obtain ⟨cs', hc, htr⟩ := hr i (by omega)
      rw [ce] at hc
      obtain ⟨_, _, hat⟩ := World.cells?_some hc
      obtain ⟨_, hz⟩ := link_at hF0 hq ce cq htr
      obtain ⟨z, hz, hw⟩ := hz j hj
      exact ⟨z, by rw [← Go.Deep.add_add, hat j hj, hz], hw⟩
    have key' : ∀ j, j < 3 → ∃ F : Nat → Int, ∀ i, i < len → W.cell? (ad.add (i * 3 + j)) = some (.int .i64 (F i)) ∧ (Lit.int .i64 (F i)).wf = true := by
      intro j hj
      refine ⟨fun i => if h : i < len then Classical.choose (key i h j hj) else 0, fun i hi => ?_⟩
      simp only [dif_pos hi]
      exact Classical.choose_spec (key i hi j hj)
    obtain ⟨a, ha⟩ := key' 0 (by omega)
    obtain ⟨b, hb⟩ := key' 1 (by omega)
    obtain ⟨k, hk⟩ := key' 2 (by omega)
    refine ⟨some ad, len, cap, a, b, k, rfl, hl, hm, fun i hi => ⟨ad, rfl, ?_, (ha i hi).1, (hb i hi).1, (hk i hi).1⟩, fun i hi => ⟨⟨(ha i hi).2, (hb i hi).2⟩, (hk i hi).2⟩⟩
    have := World.block_lt_of_cell? W _ (ha i hi).1
    rwa [block_of_add] at this
end

end Go.Proofs.YtminfghiejgieaaDoor

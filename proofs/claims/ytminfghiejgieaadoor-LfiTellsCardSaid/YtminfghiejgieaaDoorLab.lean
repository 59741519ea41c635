/- Blocks that bear labels: only what bears one turns. -/
import Derived.Test.YtminfghiejgieaaDoorHear
import Derived.Test.YtminfghiejgieaaDoorTouch
namespace Go.Proofs.YtminfghiejgieaaDoor
open Go.RowKit
set_option linter.unusedVariables false

theorem lab_ne {lab : Nat → List Nat} {x y : Nat} {u v : List Nat} (h1 : lab x = u) (h2 : lab y = v) (h : u ≠ v) : x ≠ y := by
  rintro rfl
  exact h (h1.symm.trans h2)

/-- From one world to another: only what bears a label has turned; what bears none bears none. -/
structure AF (lab : Nat → List Nat) (w : World) (lab' : Nat → List Nat) (w' : World) : Prop where
  touch : Touch (fun b => lab b ≠ []) w w'
  same : ∀ b, b < w.heap.size → lab' b = lab b

section
variable {w w' w'' : World} {lab lab' lab'' : Nat → List Nat}
theorem AF.refl (lab : Nat → List Nat) (w : World) : AF lab w lab w := ⟨Touch.refl _ _, fun _ _ => rfl⟩
theorem AF.trans (h : AF lab w lab' w') (k : AF lab' w' lab'' w'') : AF lab w lab'' w'' :=
  ⟨h.touch.trans' k.touch fun i hi => by
    rcases Nat.lt_or_ge i w.heap.size with hlt | hge
    · rw [h.same i hlt] at hi; exact .inl hi
    · exact .inr hge, fun b hb => (k.same b (Nat.lt_of_lt_of_le hb h.touch.size)).trans (h.same b hb)⟩
theorem AF.of_below (h : Below w.heap.size w w') : AF lab w lab w' := ⟨Touch.of_below h, fun _ _ => rfl⟩
theorem AF.size (h : AF lab w lab' w') : w.heap.size ≤ w'.heap.size := h.touch.size
/-- A block that is none of the net's. -/
theorem AF.block (h : AF lab w lab' w') {b : Nat} (hb : b < w.heap.size) (hl : lab b = []) : w'.heap[b]? = w.heap[b]? := h.touch.block b hb fun hs => hs hl
theorem AF.free (h : AF lab w lab' w') {b : Nat} (hb : b < w.heap.size) (hl : lab b = []) : lab' b = [] := (h.same b hb).trans hl
theorem AF.below {B : Nat} (h : AF lab w lab' w') (hB : B ≤ w.heap.size) (hl : ∀ b, b < B → lab b = []) : Below B w w' ∧ ∀ b, b < B → lab' b = [] :=
  ⟨⟨h.touch.os, h.touch.tape, h.touch.output, h.touch.size, fun k hk => h.block (Nat.lt_of_lt_of_le hk hB) (hl k hk)⟩, fun b hb => h.free (Nat.lt_of_lt_of_le hb hB) (hl b hb)⟩
theorem RowP.af {g m : Nat} {ty : TypeId} {f : Nat → Value} (h : RowP w g ty m f) (hl : lab g = []) (k : AF lab w lab' w') : RowP w' g ty m f ∧ lab' g = [] := ⟨h.of_block (k.block h.lt hl), k.free h.lt hl⟩
end

theorem size_setCell (w : World) (p : Addr) (v : Value) : (w.setCell p v).heap.size = w.heap.size := by simp [World.setCell]

/-- An error's value by its number; 0: none. -/
abbrev errV (k : Int) : Value := if k = 0 then .nilIface else errNo k

theorem errV_zero : errV 0 = .nilIface := if_pos rfl
theorem near_cases (n : Nat) (K : Nat → Nat → Int) (a b : Int) : nearE n K a b = 0 ∨ nearE n K a b = 1 ∨ nearE n K a b = 2 := by
  unfold nearE
  split
  · exact .inr (.inl rfl)
  · split
    · exact .inr (.inr rfl)
    · exact .inl rfl

theorem end_k {n m t : Nat} {a b c : Nat → Int} (hr : Right n m a b c) : RoundK n t (costF m a b c) (endF t a b c m) (endF t a b c m) := fun i hi => by
  obtain ⟨h1, h2, h3⟩ := end_fixed (t := t) hr i hi
  refine ⟨h1, fun k hk hne h16 => h2 k _ (cost_edge hr hne h16), ?_⟩
  rcases h3 with h | ⟨v, k, he, h⟩
  · exact .inl h
  · obtain ⟨-, hv, hn, -, h15⟩ := he.ok hr
    have e : costF m a b c i v = k := costV_edge hr he
    exact .inr ⟨v, hv, fun e => hn e.symm, by omega, by rw [e]; exact h⟩

end Go.Proofs.YtminfghiejgieaaDoor

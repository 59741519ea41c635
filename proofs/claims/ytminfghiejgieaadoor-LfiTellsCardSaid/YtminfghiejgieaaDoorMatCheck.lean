/- The walks of mat.Check: a table's form, its numbers. -/
import Derived.Test.YtminfghiejgieaaDoorConcat
import Derived.Test.YtminfghiejgieaaDoorDistC
namespace Go.Proofs.YtminfghiejgieaaDoor
open Go.RowKit
set_option linter.unusedVariables false

/-- As many rows as numbers in each. -/
def Square (n : Nat) (L : Nat → Nat) : Prop := 1 ≤ n ∧ n ≤ 8 ∧ ∀ i, i < n → L i = n
/-- Each number is a distance. -/
def Ranged (n : Nat) (f : Nat → Nat → Int) : Prop := ∀ i j, i < n → j < n → 0 ≤ f i j ∧ f i j ≤ 16

theorem Square.mat {w : World} {A : Option Addr} {n : Nat} {L : Nat → Nat} {f : Nat → Nat → Int} (h : Square n L) (hm : Mat w A n L f) : Mat w A n (fun _ => n) f := by
  intro i hi
  have e := h.2.2 i hi
  have := hm i hi
  rw [e] at this
  exact this

theorem Ranged.flat {n : Nat} {f : Nat → Nat → Int} (h1 : 1 ≤ n) (h : Ranged n f) (q : Nat) (hq : q < n * n) : 0 ≤ f (q / n) (q % n) ∧ f (q / n) (q % n) ≤ 16 :=
  h _ _ ((Nat.div_lt_iff_lt_mul (by omega)).2 hq) (Nat.mod_lt _ (by omega))

theorem Ranged.of_flat {n : Nat} {f : Nat → Nat → Int} (h1 : 1 ≤ n) (h : ∀ q, q < n * n → 0 ≤ f (q / n) (q % n) ∧ f (q / n) (q % n) ≤ 16) : Ranged n f := by
  intro i j hi hj
  have hq : i * n + j < n * n := by
    have : (i + 1) * n ≤ n * n := Nat.mul_le_mul (by omega) (Nat.le_refl _)
    rw [Nat.succ_mul] at this
    omega
  have h' := h _ hq
  have e1 : (i * n + j) / n = i := by
    rw [Nat.mul_comm, Nat.mul_add_div (by omega), Nat.div_eq_of_lt hj, Nat.add_zero]
  have e2 : (i * n + j) % n = j := by rw [Nat.mul_comm, Nat.mul_add_mod, Nat.mod_eq_of_lt hj]
  rwa [e1, e2] at h'

theorem ownsRow_cell {w : World} {base : Nat} {t : TypeId} {v : Value} {n : Nat} {F : Nat → Value} (hn : 1 ≤ n) (h : w.ownsRow base t 1 v n ((List.range n).map F)) :
    ∃ g c, v = .slice (some ⟨g, 0, none⟩) n c ∧ base ≤ g ∧ g < w.heap.size ∧ ∀ q, q < n → w.cell? ⟨g, q, none⟩ = some (F q) := by
  rcases h.2 with ⟨h', e⟩ | ⟨g', cap', cur, h', hb, hg, hnc, _, hcs, htake⟩
  · omega
  · refine ⟨g', cap', h', hb, ?_, ?_⟩
    · rcases Nat.lt_or_ge g' w.heap.size with hlt | hge
      · exact hlt
      · rw [Array.getElem?_eq_none hge] at hg; cases hg
    · intro q hq
      have hr : RowP w g' t n F := ⟨cur, hg, by omega, fun i hi => by
        have e : (cur.toList.take (n * 1))[i]? = ((List.range n).map F)[i]? := by rw [htake]
        rw [List.getElem?_take, if_pos (by omega)] at e
        simpa [hi] using e⟩
      exact hr.cell hq

end Go.Proofs.YtminfghiejgieaaDoor

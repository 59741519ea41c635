/- The walk of mat.Mul. -/
import Derived.Test.YtlbdbfmgkappaaaDoorMatOne
namespace Go.Proofs.YtlbdbfmgkappaaaDoor
open Go.RowKit
set_option linter.unusedVariables false

/-- The least of 16 and of what F tells of the first n. -/
def minTo (n : Nat) (F : Nat → Int) : Int :=
  match n with
  | 0 => 16
  | n + 1 => min (minTo n F) (F n)

/-- Two tables, one after the other. -/
def mulF (n : Nat) (a b : Nat → Nat → Int) (i k : Nat) : Int := minTo n fun j => a i j + b j k

theorem Mat.some_ {w : World} {A : Option Addr} {n : Nat} {L : Nat → Nat} {f : Nat → Nat → Int} (h1 : 1 ≤ n) (h : Mat w A n L f) : ∃ ad, A = some ad := by
  obtain ⟨ad, _, _, e, _⟩ := h 0 (by omega)
  exact ⟨ad, e⟩

theorem Mat.sq {w : World} {ad : Addr} {n : Nat} {f : Nat → Nat → Int} (h1 : 1 ≤ n) (h : Mat w (some ad) n (fun _ => n) f) (i : Nat) (hi : i < n) :
    ∃ Ai ci, (w.cell? (ad.add i) = some (.slice (some Ai) n ci) ∧ ad.block < w.heap.size) ∧ Ai.block < w.heap.size ∧ ∀ j, j < n → w.cell? (Ai.add j) = some (.int .i64 (f i j)) := by
  obtain ⟨ad', Ai, ci, e, hlt, hc, hv⟩ := h i hi
  injection e with e
  subst e
  have hv : Vec w Ai n (f i) := hv
  obtain ⟨Ai', rfl, hl, _⟩ := hv 0 (by omega)
  refine ⟨Ai', ci, ⟨hc, hlt⟩, hl, fun j hj => ?_⟩
  obtain ⟨a', e, hl', hc'⟩ := hv j hj
  injection e with e
  subst e
  exact hc'

attribute [local go_sem high] run_min_pair

/-- A table that passes. -/
def Good (n : Nat) (L : Nat → Nat) (f : Nat → Nat → Int) : Prop := Square n L ∧ Ranged n f

open Classical in
/-- What is wrong with a table that does not. -/
noncomputable def fault (n : Nat) (L : Nat → Nat) (f : Nat → Nat → Int) : Int := if Square n L then 1 else 3

theorem matCheck_bad (A : Option Addr) (n c : Nat) (L : Nat → Nat) (f : Nat → Nat → Int) (w : World) (hm : Mat w A n L f) (hn : n ≤ 9223372036854775807) (h : ¬ Good n L f) :
    Calls Tryd.prog 47 #[.slice A n c] w fun e w' => e = .returned (errNo (fault n L f)) ∧ Below w.heap.size w w' := by
  by_cases hs : Square n L
  · have hr : ¬ Ranged n f := fun hr => h ⟨hs, hr⟩
    have e : fault n L f = 1 := by unfold fault; rw [if_pos hs]
    rw [e]
    exact matCheck_range A n c f w (hs.mat hm) hs.1 hs.2.1 hr
  · have e : fault n L f = 3 := by unfold fault; rw [if_neg hs]
    rw [e]
    exact matCheck_form A n c L f w hm hn hs

theorem matCheck_good (A : Option Addr) (n c : Nat) (L : Nat → Nat) (f : Nat → Nat → Int) (w : World) (hm : Mat w A n L f) (h : Good n L f) :
    Calls Tryd.prog 47 #[.slice A n c] w fun e w' => e = .returned .nilIface ∧ Below w.heap.size w w' :=
  matCheck_ok A n c f w (h.1.mat hm) h.1.1 h.1.2.1 h.2

end Go.Proofs.YtlbdbfmgkappaaaDoor

/- BellFixed: what all think in the end another round does not change; they come to it in fewer rounds than there are nodes; whatever they thought at first, behind so many rounds they think it. For all arguments; no condition. -/
import Derived.Test.YtminfghiejgieaaDoorBellRun
namespace Go.Proofs.YtminfghiejgieaaDoor
open Go.RowKit
set_option linter.unusedVariables false

theorem Lnk.alloc' {w : World} {A : Option Addr} {n : Nat} {a b c : Nat → Int} (h : Lnk w A n a b c) (o : Obj) : Lnk (w.alloc o) A n a b c := h.keep ((Below.refl _ _).alloc (Nat.le_refl _) o)

/-- The one link of the facts. -/
theorem lnk_lit (w : World) : Lnk (w.alloc (.cells #[.int .i64 0, .int .i64 1, .int .i64 3] 69)) (some ⟨w.heap.size, 0, none⟩) 1 (fun _ => 0) (fun _ => 1) (fun _ => 3) := by
  have h := Blk.new w 69 #[.int .i64 0, .int .i64 1, .int .i64 3]
  intro i hi
  obtain rfl : i = 0 := by omega
  exact ⟨_, rfl, h.lt, by rw [Addr.add_lit, h.cell]; rfl, by rw [Addr.add_lit, h.cell]; rfl, by rw [Addr.add_lit, h.cell]; rfl⟩

theorem right_lit : Right 2 1 (fun _ => 0) (fun _ => 1) (fun _ => 3) := by
  intro i hi
  obtain rfl : i = 0 := by omega
  exact ⟨by unfold LinkOk; decide, by decide, fun j hj => absurd hj (by omega)⟩

theorem good_lit : GoodG 2 1 (fun _ => 0) (fun _ => 1) (fun _ => 3) := ⟨by omega, by omega, right_lit⟩

theorem end_lit : ∀ i, i < 2 → (if i = 0 then 0 else 3 : Int) = endF 0 (fun _ => 0) (fun _ => 1) (fun _ => 3) 1 i := by
  refine end_only (d := fun i => if i = 0 then 0 else 3) right_lit (fun i hi => ?_) fun i hi => ?_
  · show 0 ≤ (if i = 0 then 0 else 3 : Int) ∧ (if i = 0 then 0 else 3 : Int) ≤ 16
    split <;> omega
  · have h : i = 0 ∨ i = 1 := by omega
    rcases h with rfl | rfl <;> decide

theorem takes_lit {k : Nat} (h : Takes 2 0 (fun _ => 0) (fun _ => 1) (fun _ => 3) 1 k) : k = 1 := by
  obtain ⟨h1, h2, -⟩ := h
  have e : k = 0 ∨ k = 1 := by omega
  rcases e with rfl | rfl
  · have h3 := h2 1 (by omega)
    rw [← end_lit 1 (by omega)] at h3
    exact absurd h3 (by decide)
  · rfl

end Go.Proofs.YtminfghiejgieaaDoor

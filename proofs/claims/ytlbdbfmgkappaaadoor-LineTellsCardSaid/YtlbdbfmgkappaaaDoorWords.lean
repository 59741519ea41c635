/- Small words: slices, tables and links behind an allocation. -/
import Derived.Test.YtlbdbfmgkappaaaDoorMatLaw
import Derived.Test.YtlbdbfmgkappaaaDoorGraph
namespace Go.Proofs.YtlbdbfmgkappaaaDoor
open Go.RowKit
set_option linter.unusedVariables false

theorem Vec.alloc' {w : World} {A : Option Addr} {n : Nat} {f : Nat → Int} (h : Vec w A n f) (o : Obj) : Vec (w.alloc o) A n f := h.keep ((Below.refl _ _).alloc (Nat.le_refl _) o)
theorem Mat.alloc' {w : World} {A : Option Addr} {n : Nat} {L : Nat → Nat} {f : Nat → Nat → Int} (h : Mat w A n L f) (o : Obj) : Mat (w.alloc o) A n L f := h.keep ((Below.refl _ _).alloc (Nat.le_refl _) o)

theorem vec_of_blk {w : World} {g n : Nat} {cs : Array Value} {f : Nat → Int} (h : Blk w g 3 cs) (hf : ∀ i, i < n → cs[i]? = some (.int .i64 (f i))) : Vec w (some ⟨g, 0, none⟩) n f :=
  fun j hj => ⟨_, rfl, h.lt, by rw [Addr.add_lit, Nat.zero_add, h.cell, hf j hj]⟩

theorem Mat.drewN {w : World} {A : Option Addr} {n : Nat} {L : Nat → Nat} {f : Nat → Nat → Int} (h : Mat w A n L f) (k : Nat) : Mat (w.drewN k) A n L f := h

theorem Lnk.alloc' {w : World} {A : Option Addr} {n : Nat} {a b c : Nat → Int} (h : Lnk w A n a b c) (o : Obj) : Lnk (w.alloc o) A n a b c := h.keep ((Below.refl _ _).alloc (Nat.le_refl _) o)

/-- The one link of the facts. -/
theorem lnk_lit (w : World) : Lnk (w.alloc (.cells #[.int .i64 0, .int .i64 1, .int .i64 3] 31)) (some ⟨w.heap.size, 0, none⟩) 1 (fun _ => 0) (fun _ => 1) (fun _ => 3) := by
  have h := Blk.new w 31 #[.int .i64 0, .int .i64 1, .int .i64 3]
  intro i hi
  obtain rfl : i = 0 := by omega
  exact ⟨_, rfl, h.lt, by rw [Addr.add_lit, h.cell]; rfl, by rw [Addr.add_lit, h.cell]; rfl, by rw [Addr.add_lit, h.cell]; rfl⟩

theorem right_lit : Right 2 1 (fun _ => 0) (fun _ => 1) (fun _ => 3) := by
  intro i hi
  obtain rfl : i = 0 := by omega
  exact ⟨by unfold LinkOk; decide, by decide, fun j hj => absurd hj (by omega)⟩

theorem good_lit : GoodG 2 1 (fun _ => 0) (fun _ => 1) (fun _ => 3) := ⟨by omega, by omega, right_lit⟩

/-- A table's row and its number, at two indices. -/
theorem Mat.at_ {w : World} {ad : Addr} {n : Nat} {f : Nat → Nat → Int} (h1 : 1 ≤ n) (h : Mat w (some ad) n (fun _ => n) f) {p q : Nat} (hp : p < n) (hq : q < n) :
    ∃ Ai ci, w.cell? (ad.add p) = some (.slice (some Ai) n ci) ∧ w.cell? (Ai.add q) = some (.int .i64 (f p q)) := by
  obtain ⟨Ai, ci, hci, _, hvi⟩ := h.sq h1 p hp
  exact ⟨Ai, ci, hci.1, hvi q hq⟩

theorem Mat.at_lit {w : World} {g : Nat} {n : Nat} {f : Nat → Nat → Int} (h1 : 1 ≤ n) (h : Mat w (some ⟨g, 0, none⟩) n (fun _ => n) f) {p q : Nat} (hp : p < n) (hq : q < n) :
    ∃ Ai ci, w.cell? ⟨g, p, none⟩ = some (.slice (some Ai) n ci) ∧ w.cell? (Ai.add q) = some (.int .i64 (f p q)) := by
  obtain ⟨Ai, ci, hc, hv⟩ := Mat.at_ h1 h hp hq
  rw [Addr.add_lit, Nat.zero_add] at hc
  exact ⟨Ai, ci, hc, hv⟩

end Go.Proofs.YtlbdbfmgkappaaaDoor

/- A region that draws its order, whose last operations are forced behind all others: the others are walked once, in the order of the text. -/
import Derived.Test.YtfdldjlaedfllaaDoorMem
import Derived.StillTail
import Derived.BigQuiet
namespace Go.Proofs.YtfdldjlaedfllaaDoor
open Go.RowKit

theorem still_of_quiet {P : Program} {w : World} {o : Oper} {a : Act} {K : Act → Prop} (h : o.quiet P a (fun w' => w' = w) K) : o.still P a w K := by
  obtain ⟨v, hv, hk⟩ := h
  have h1 := hv w rfl
  unfold Oper.quietAt at h1
  unfold Oper.still
  generalize (execOp a.eval o).run P w = r at h1
  unfold Oper.quietUpon at h1
  unfold Oper.stillUpon
  split at h1
  · obtain ⟨rfl, rfl⟩ := h1; exact ⟨rfl, hk⟩
  · obtain ⟨rfl, rfl⟩ := h1; exact ⟨rfl, hk⟩
  · obtain ⟨rfl, hc⟩ := h1; exact ⟨rfl, v, hc, hk⟩
  · exact h1.elim

theorem wpStill_of_quiet {P : Program} {ops : Array Oper} {w : World} {Q : Act → Prop} : ∀ (l : List Oper) (a : Act), wpQuiet P ops (fun w' => w' = w) Q l a → wpStill P ops w Q l a
  | [], a, h => h
  | o :: rest, a, h => by
    unfold wpQuiet at h
    unfold wpStill
    split
    · rename_i hw
      rw [if_pos hw] at h
      have h2 : o.still P a w (wpQuiet P ops (fun w' => w' = w) Q rest) := still_of_quiet h
      exact Oper.still_mono (fun a' ha => wpStill_of_quiet rest a' ha) h2
    · rename_i hw
      rw [if_neg hw] at h
      exact wpStill_of_quiet rest _ h

theorem wp_region_quiet_tail {P : Program} {id : Nat} {Q : Exit → Act → World → Prop} {a : Act} {w : World} {l : List Oper} (n : Nat) (hm : P.follows .mixedOrders = true) (hB : Region.lexTailB .any l.toArray n = true)
    (h : wpQuiet P l.toArray (fun w' => w' = w.drew) (fun a' => wpList P l.toArray Q (l.drop n) a' w.drew) (l.take n) a) : (Code.region id l.toArray true).wp P Q a w :=
  wp_region_still_tail n hm hB (wpStill_of_quiet _ _ h)

end Go.Proofs.YtfdldjlaedfllaaDoor

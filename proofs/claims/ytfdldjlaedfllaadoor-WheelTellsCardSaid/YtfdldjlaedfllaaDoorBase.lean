/- Words and small laws that all walks share. -/
import Derived.Test.YtfdldjlaedfllaaDoorRows
import Derived.WalkKit
import Derived.WalkSpells
import Derived.WalkLawsBesides
import Derived.Lib.Hide
namespace Go.Proofs.YtfdldjlaedfllaaDoor
open Go.RowKit

/-- The minimum of two integers, unsplit. -/
theorem run_min_pair {P : Program} {w : World} (ts : Array TypeId) (t : TypeId) (k k' : IntKind) (x y : Int) :
    (Builtin.min_ ts t #[.int k x, .int k' y]).run P w = .ok (.int k (min x y)) w := by
  rw [run_min_int2]
  have h : (if y < x then y else x) = min x y := by
    by_cases h : y < x
    · rw [if_pos h]; omega
    · rw [if_neg h]; omega
  rw [h]

/-- The maximum of two integers, unsplit. -/
theorem run_max_pair {P : Program} {w : World} (ts : Array TypeId) (t : TypeId) (k k' : IntKind) (x y : Int) :
    (Builtin.max_ ts t #[.int k x, .int k' y]).run P w = .ok (.int k (max x y)) w := by
  simp [Builtin.max_, Builtin.max2]
  by_cases h : x < y
  · rw [if_pos h]; omega
  · rw [if_neg h]; omega

theorem ret_int {k : IntKind} {a b : Int} (h : a = b) : Ending.returned (.int k a) = .returned (.int k b) := by rw [h]

/-- What one call leaves, and then another one. -/
theorem keep {W a b : World} (h : Below W.heap.size W a) (k : Below a.heap.size a b) : Below W.heap.size W b := Below.trans h (Below.mono k h.size)
theorem keepAlloc {W a b : World} {o : Obj} (h : Below W.heap.size W a) (k : Below (a.alloc o).heap.size (a.alloc o) b) : Below W.heap.size W b := keep (Below.alloc h h.size o) k

abbrev errNo (n : Int) : Value := .iface 27 (.int .i64 n)

end Go.Proofs.YtfdldjlaedfllaaDoor

/- The walk of mat.One. -/
import Derived.Test.YtminfghiejgieaaDoorTab
namespace Go.Proofs.YtminfghiejgieaaDoor
open Go.RowKit
set_option linter.unusedVariables false

/-- The table that changes none. -/
def oneF (i j : Nat) : Int := if i = j then 0 else 16

theorem row_one {w : World} {g n i : Nat} (h : Blk w g 3 (List.replicate n (.int .i64 16)).toArray) (hi : i < n) :
    RowP (w.setCell ⟨g, i, none⟩ (.int .i64 0)) g 3 n (fun j => .int .i64 (oneF i j)) := by
  have h1 : RowP w g 3 n (fun _ => .int .i64 16) := ⟨_, h, by simp, fun j hj => by simp [hj]⟩
  refine (h1.set i (.int .i64 0)).congr fun j hj => ?_
  unfold upd oneF
  by_cases e : j = i
  · subst e; simp
  · rw [if_neg e, if_neg (fun h => e h.symm)]

end Go.Proofs.YtminfghiejgieaaDoor

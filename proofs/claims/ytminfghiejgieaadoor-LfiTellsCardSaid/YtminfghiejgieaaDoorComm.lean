/- A store into an old block, and a new block: the order is no matter. -/
import Derived.Test.YtminfghiejgieaaDoorMem
namespace Go.Proofs.YtminfghiejgieaaDoor
open Go.RowKit

theorem modify_push {α : Type} (xs : Array α) (x : α) (i : Nat) (f : α → α) (h : i < xs.size) : (xs.push x).modify i f = (xs.modify i f).push x := by
  apply Array.ext_getElem?
  intro j
  simp only [Array.getElem?_modify, Array.getElem?_push, Array.size_modify]
  by_cases h1 : j = xs.size
  · subst h1
    rw [if_neg (by omega), if_pos rfl, if_pos rfl]
  · rw [if_neg h1, if_neg h1]

theorem alloc_setCell (w : World) (o : Obj) (a : Addr) (v : Value) (h : a.block < w.heap.size) : (w.alloc o).setCell a v = (w.setCell a v).alloc o := by
  unfold World.setCell World.alloc
  simp only [modify_push _ _ _ _ h]

theorem alloc_drew (w : World) (o : Obj) : (w.alloc o).drew = (w.drew).alloc o := rfl

end Go.Proofs.YtminfghiejgieaaDoor

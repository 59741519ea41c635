/- slices.SortFunc by Order's closure. -/
import Derived.Test.YtfdldjlaedfllaaDoorPickSort
import Derived.Test.YtfdldjlaedfllaaDoorPickOrd
namespace Go.Proofs.YtfdldjlaedfllaaDoor
open Go.Shelf Go.RowKit Go.Lib Go.Sort
set_option linter.unusedVariables false

theorem cell_grow {w : World} {os : Array Obj} {a : Addr} {x : Value} (h : w.cell? a = some x) : (grow w os).cell? a = some x := by
  have hlt := World.block_lt_of_cell? w _ h
  refine (World.cell?_of_block (w := w) ?_).trans h
  show (w.heap ++ os)[a.block]? = w.heap[a.block]?
  exact Array.getElem?_append_left hlt

theorem order_lays (p : Nat) (fl : Int) (blk off size : Nat) (w : World) (h : w.cell? ⟨p, 0, none⟩ = some (.int .i64 fl)) (hne : p ≠ blk) :
    CmpLays1 Tryd.prog 33 #[.pointer (some ⟨p, 0, none⟩)] (Value.int .i64) (ordC fl) blk off size w := fun m os dk hs x y => by
  have hc : (sortWorld (Value.int .i64) w blk off m dk os).cell? ⟨p, 0, none⟩ = some (.int .i64 fl) := cell_grow ((cell?_putRow_other (Value.int .i64) (Sort.ahead w m) blk off dk ⟨p, 0, none⟩ (.inl hne)).trans h)
  refine (order_closure p fl x y _ hc).mono ?_
  rintro e w' ⟨rfl, q, rfl⟩
  exact ⟨rfl, q, _, alloc_eq_grow _ _⟩

set_option maxHeartbeats 1000000 in
theorem sort_walk (p : Nat) (fl : Int) (blk off cap : Nat) (d : Array Int) (w : World) (h : w.cell? ⟨p, 0, none⟩ = some (.int .i64 fl)) (hne : p ≠ blk) (hH : Holds (Value.int .i64) w blk off d) (hblk : blk < w.heap.size) (hsz : d.size < 4611686018427387904) :
    Calls Tryd.prog 42 #[.slice (some ⟨blk, off, none⟩) d.size cap, .func (.func 33) #[] #[.pointer (some ⟨p, 0, none⟩)]] w fun e w' => e = .returned (.tuple #[]) ∧
      ∃ d' n os, PermIn 0 d.size d d' ∧ SortedIn (ltOf (ordC fl)) 0 d.size d' ∧ w' = sortWorld (Value.int .i64) w blk off n d' os := by
  have eg : ∀ args w, (callFunc 33 args).run Tryd.prog w = .ok (.enter 33 args) w := fun args w => enters_go Tryd.func33 (by kernel_rfl) (by kernel_rfl) args w
  exact Any.slices_SortFunc Srt.lay (Value.int .i64) (fun _ => rfl) (ordC fl) (ord_swo fl) 33 #[.pointer (some ⟨p, 0, none⟩)] blk off cap d w eg (order_lays p fl blk off d.size w h hne) hH hblk hsz

end Go.Proofs.YtfdldjlaedfllaaDoor

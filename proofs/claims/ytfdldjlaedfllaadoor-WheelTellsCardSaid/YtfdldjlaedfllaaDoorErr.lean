/- The walks of plain.Told, waywardensame.Error: which number an error has. -/
import Derived.Test.YtfdldjlaedfllaaDoorAs
namespace Go.Proofs.YtfdldjlaedfllaaDoor
open Go.RowKit
set_option linter.unusedVariables false

/-- Package errors' own variable is laid. -/
def ErrT (w : World) : Prop := w.cell? ⟨0, 0, none⟩ = some (.iface 102 (.agg #[.pointer (some ⟨1, 30, none⟩)]))

theorem ErrT.keep {w w' : World} (h : ErrT w) (hb : Below w.heap.size w w') : ErrT w' := (hb.cell (World.block_lt_of_cell? w _ h)).trans h

set_option maxRecDepth 100000 in
set_option maxHeartbeats 1000000 in
theorem told_nil (w : World) : Calls Tryd.prog 21 #[.nilIface] w fun e w' => e = .returned (.int .i64 0) ∧ w' = w := by
  go_enter Tryd.func21, Tryd.ntmps21
  go_wp2_with fail
  go_ret
  exact ⟨rfl, rfl⟩

set_option maxRecDepth 100000 in
set_option maxHeartbeats 1000000 in
theorem told_no (k : Int) (w : World) (hg : ErrT w) : Calls Tryd.prog 21 #[errNo k] w fun e w' => e = .returned (.int .i64 k) ∧ Below w.heap.size w w' := by
  have HG := Lib.hid (hg.keep ((Below.refl _ _).alloc (Nat.le_refl _) (.cells #[.int .i64 0] 27)))
  clear hg
  go_enter Tryd.func21, Tryd.ntmps21
  go_wp2_with fail
  have hcall := as_hit k ⟨w.heap.size, 0, none⟩ (.int .i64 0) (w.alloc (.cells #[.int .i64 0] 27)) HG.out (by simp) (by simp)
  have hcell : ∀ w', w' = (((((w.alloc (.cells #[.int .i64 0] 27)).alloc (.cells #[.pointer (some ⟨w.heap.size, 0, none⟩)] 69)).alloc (.cells #[.pointer (some ⟨1, 69, none⟩), .pointer (some ⟨(w.alloc (.cells #[.int .i64 0] 27)).heap.size, 0, none⟩), .int .u64 150] 81)).alloc (.cells #[.pointer (some ⟨1, 69, none⟩), .pointer (some ⟨(w.alloc (.cells #[.int .i64 0] 27)).heap.size, 0, none⟩), .int .u64 150] 81)).alloc (.cells #[.int .i64 k] 27)).setCell ⟨w.heap.size, 0, none⟩ (.int .i64 k) → w'.cell? ⟨w.heap.size, 0, none⟩ = some (.int .i64 k) ∧ Below w.heap.size w w' := by
    rintro w' rfl
    have hb := Blk.new w 27 #[.int .i64 0]
    have h2 := (((hb.alloc (.cells #[.pointer (some ⟨w.heap.size, 0, none⟩)] 69)).alloc (.cells #[.pointer (some ⟨1, 69, none⟩), .pointer (some ⟨(w.alloc (.cells #[.int .i64 0] 27)).heap.size, 0, none⟩), .int .u64 150] 81)).alloc (.cells #[.pointer (some ⟨1, 69, none⟩), .pointer (some ⟨(w.alloc (.cells #[.int .i64 0] 27)).heap.size, 0, none⟩), .int .u64 150] 81)).alloc (.cells #[.int .i64 k] 27)
    have h3 := h2.set_ 0 (.int .i64 k)
    exact ⟨by rw [h3.cell]; rfl, ((((((Below.refl w.heap.size w).alloc (Nat.le_refl _) _).alloc (by simp) _).alloc (by simp; omega) _).alloc (by simp; omega) _).alloc (by simp; omega) _).setCell (Nat.le_refl _) _⟩
  refine hcall.mono ?_
  clear hcall
  rintro e w2 ⟨rfl, hw2⟩
  obtain ⟨hc, hb⟩ := hcell w2 hw2
  have HB := Lib.hid hb
  clear hcell hw2 hb
  go_wp2_with fail
  go_ret
  exact ⟨rfl, HB.out⟩

set_option maxRecDepth 100000 in
set_option maxHeartbeats 1000000 in
theorem err_nil (k : Int) (d : Bool) (hd : d = true ↔ k = 0) (w : World) : Calls Tryd.prog 9 #[.nilIface, .int .i64 k] w fun e w' => e = .returned (.bool d) ∧ Below w.heap.size w w' := by
  have HD := Lib.hid hd
  clear hd
  by_cases h : k = 0
  · subst h
    obtain rfl : d = true := HD.out.2 rfl
    go_enter Tryd.func9, Tryd.ntmps9
    go_wp2_with fail
    refine (told_nil w).mono ?_
    rintro e w2 ⟨rfl, rfl⟩
    go_wp2_with fail
    go_ret
    exact ⟨rfl, Below.refl _ _⟩
  · obtain rfl : d = false := by
      cases d
      · rfl
      · exact absurd (HD.out.1 rfl) h
    have hd : ((0 : Int) == k) = false := beq_false_of_ne fun e => h e.symm
    have hd2 : (k == 0) = false := beq_false_of_ne h
    clear h
    go_enter Tryd.func9, Tryd.ntmps9
    go_wp2_with fail
    refine (told_nil w).mono ?_
    rintro e w2 ⟨rfl, rfl⟩
    go_wp2_with fail
    go_ret
    exact ⟨rfl, Below.refl _ _⟩

set_option maxRecDepth 100000 in
set_option maxHeartbeats 1000000 in
theorem err_no (k l : Int) (d : Bool) (hd : d = true ↔ k = l) (w : World) (hg : ErrT w) : Calls Tryd.prog 9 #[errNo k, .int .i64 l] w fun e w' => e = .returned (.bool d) ∧ Below w.heap.size w w' := by
  have HD := Lib.hid hd
  have HG := Lib.hid hg
  clear hd hg
  by_cases h : k = l
  · subst h
    obtain rfl : d = true := HD.out.2 rfl
    go_enter Tryd.func9, Tryd.ntmps9
    go_wp2_with fail
    refine (told_no k w HG.out).mono ?_
    rintro e w2 ⟨rfl, hb⟩
    have HB := Lib.hid hb
    clear hb
    go_wp2_with fail
    go_ret
    exact ⟨rfl, HB.out⟩
  · obtain rfl : d = false := by
      cases d
      · rfl
      · exact absurd (HD.out.1 rfl) h
    have hd : (k == l) = false := beq_false_of_ne h
    clear h
    go_enter Tryd.func9, Tryd.ntmps9
    go_wp2_with fail
    refine (told_no k w HG.out).mono ?_
    rintro e w2 ⟨rfl, hb⟩
    have HB := Lib.hid hb
    clear hb
    go_wp2_with fail
    go_ret
    exact ⟨rfl, HB.out⟩

end Go.Proofs.YtfdldjlaedfllaaDoor

/- slices.SortedFunc(slices.Values(s), Order's closure): the walk. -/
import Derived.Shelf.SlSortCmp.NoneTotal
import Derived.Test.YtfdldjlaedfllaaDoorPickFun
import Derived.Test.YtfdldjlaedfllaaDoorPickHas
import Derived.Test.YtfdldjlaedfllaaDoorPickLaw
import Derived.Test.YtfdldjlaedfllaaDoorRow
namespace Go.Proofs.YtfdldjlaedfllaaDoor
open Go.Shelf Go.RowKit Go.Lib Go.Sort
set_option linter.unusedVariables false

set_option maxHeartbeats 1000000 in
theorem sort_walk2 (p : Nat) (fl : Int) (blk cap : Nat) (zs : List Int) (w : World) (h : w.cell? ⟨p, 0, none⟩ = some (.int .i64 fl)) (hne : p ≠ blk) (hH : Holds (Value.int .i64) w blk 0 zs.toArray) (hblk : blk < w.heap.size) (hsz : zs.length < 4611686018427387904) :
    Calls Tryd.prog 42 #[.slice (some ⟨blk, 0, none⟩) zs.length cap, .func (.func 33) #[] #[.pointer (some ⟨p, 0, none⟩)]] w fun e w' => e = .returned (.tuple #[]) ∧
      (∀ B, B ≤ blk → Below B w w') ∧ ∀ i, i < zs.length → w'.cell? ⟨blk, i, none⟩ = some (.int .i64 (atL (hopsL fl zs) i)) := by
  have eg : ∀ args w, (callFunc 33 args).run Tryd.prog w = .ok (.enter 33 args) w := fun args w => enters_go Tryd.func33 (by kernel_rfl) (by kernel_rfl) args w
  have := Any.slices_SortFunc_total Srt.lay (Value.int .i64) (fun _ => rfl) (ordC fl) (ord_swo fl) 33 #[.pointer (some ⟨p, 0, none⟩)] blk 0 cap zs.toArray w eg (order_lays p fl blk 0 zs.toArray.size w h hne) hH hblk (by simpa using hsz) (ord_total fl)
  refine Calls.mono (f := 42) (args := #[.slice (some ⟨blk, 0, none⟩) zs.length cap, .func (.func 33) #[] #[.pointer (some ⟨p, 0, none⟩)]]) this ?_
  rintro e w' ⟨rfl, n, os, rfl⟩
  refine ⟨rfl, fun B hB => ?_, fun i hi => ?_⟩
  · refine ⟨rfl, rfl, rfl, ?_, fun k hk => ?_⟩
    · simp [sortWorld, putRow, mapBlock, Sort.ahead]
    · have hk2 : k < w.heap.size := by omega
      simp only [sortWorld]
      rw [heap_grow_old _ _ (by simpa [putRow, mapBlock, Sort.ahead] using hk2)]
      simp [putRow, mapBlock, Sort.ahead, Array.getElem?_modify, show blk ≠ k by omega]
  · refine cell_grow ?_
    have := cell?_putRow (Value.int .i64) (Sort.ahead w n) blk 0 zs.toArray (hopsL fl zs).toArray hH (by simp [hopsL_length]) i (by simp [hopsL_length]; omega)
    simp only [Nat.zero_add] at this
    refine Eq.trans this ?_
    simp [atL, List.getD_eq_getElem?_getD, hopsL_length, hi]

theorem sort_none_walk (p : Option Addr) (cap : Nat) (fv : Value) (w : World) : Calls Tryd.prog 42 #[.slice p 0 cap, fv] w fun e w' => e = .returned (.tuple #[]) ∧ w' = w := AnyF.slices_SortFunc_none { Srt.lay with } p cap fv w

set_option maxRecDepth 100000 in
set_option maxHeartbeats 1000000 in
theorem sorted_walk (p Bs : Nat) (fl : Int) (sv : Value) (zs : List Int) (w : World) (hp : w.cell? ⟨p, 0, none⟩ = some (.int .i64 fl)) (hreach : zs.length * 8 ≤ 140737488355328)
    (hc : w.cell? ⟨Bs, 0, none⟩ = some sv) (hI : Vals.Ints w.heap.size w sv zs) :
    Calls Tryd.prog 31 #[.func (.func 43) #[] #[.pointer (some ⟨Bs, 0, none⟩)], .func (.func 33) #[] #[.pointer (some ⟨p, 0, none⟩)]] w fun e w' =>
      ∃ A c, e = .returned (.slice A zs.length c) ∧ zs.length ≤ c ∧ Vec w' A zs.length (atL (hopsL fl zs)) ∧ Below w.heap.size w w' := by
  have hcall := collect_vals Bs sv zs w hreach (World.block_lt_of_cell? w _ hc) hc hI
  have HP := Lib.hid hp
  have HR := Lib.hid hreach
  have hlt := World.block_lt_of_cell? w _ hp
  clear hp hreach hc hI
  go_enter Tryd.func31, Tryd.ntmps31
  go_wp2_with fail
  refine hcall.mono ?_
  rintro e w1 ⟨v, rfl, hown, hb⟩
  clear hcall
  have hb2 := hb
  have HB := Lib.hid hb2
  clear hb hb2
  by_cases h0 : zs = []
  · subst h0
    have hv : ∃ q c0, v = .slice q 0 c0 := by
      rcases hown.2 with ⟨h, _⟩ | ⟨g, cap, cur, h, _⟩
      · exact ⟨_, _, h⟩
      · exact ⟨_, _, h⟩
    clear hown
    obtain ⟨q, c0, rfl⟩ := hv
    go_wp2_with fail
    refine (sort_none_walk q c0 _ _).mono ?_
    rintro e w2 ⟨rfl, h2⟩
    subst w2
    go_wp2_with fail
    go_ret
    exact ⟨q, c0, rfl, Nat.zero_le _, fun j hj => absurd hj (by simp), HB.out⟩
  · obtain ⟨g, cap, rfl, hg1, hg2, hH⟩ := holds_own h0 hown
    have hcap : zs.length ≤ cap := by
      rcases hown.2 with ⟨h, _⟩ | ⟨g2, cap2, cur, h, _, _, hnc, _⟩
      · cases h
      · injection h with _ _ h3
        omega
    have hcall := sort_walk2 p fl g cap zs w1 ((HB.out.cell hlt).trans HP.out) (by have : p < w.heap.size := hlt; omega) hH hg2 (by have := HR.out; omega)
    clear hown hH
    go_wp2_with fail
    refine hcall.mono ?_
    rintro e w2 ⟨rfl, hb2, hcells⟩
    have HB2 := Lib.hid hb2
    have HC := Lib.hid hcells
    clear hcall hb2 hcells
    go_wp2_with fail
    go_ret
    refine ⟨_, _, rfl, hcap, fun j hj => ⟨_, rfl, ?_, ?_⟩, HB.out.trans (HB2.out _ hg1)⟩
    · exact Nat.lt_of_lt_of_le hg2 (HB2.out 0 (Nat.zero_le _)).size
    · rw [Addr.add_lit, Nat.zero_add]
      exact HC.out j hj

end Go.Proofs.YtfdldjlaedfllaaDoor

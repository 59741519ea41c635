/- Which of two that are due stands ahead: the walk of Tick's closure; the sort. -/
import Derived.Shelf.SlSortCmp.NoneTotal
import Derived.Shelf.SlGeneric
import Derived.Test.YtfdldjlaedfllaaDoorWhLaw
import Derived.Test.YtfdldjlaedfllaaDoorPickMix
import Derived.Test.YtfdldjlaedfllaaDoorHeld
namespace Go.Proofs.YtfdldjlaedfllaaDoor
open Go.Shelf Go.RowKit Go.Lib Go.Sort
set_option linter.unusedVariables false

set_option maxRecDepth 100000 in
set_option maxHeartbeats 1000000 in
theorem due_closure (a b c d : Int) (ha : 0 ≤ a ∧ a ≤ 1099511627776) (hb : 0 ≤ b ∧ b < 64) (hc : 0 ≤ c ∧ c ≤ 1099511627776) (hd : 0 ≤ d ∧ d < 64) (w : World) :
    Calls Tryd.prog 25 #[.agg #[.int .i64 a, .int .i64 b], .agg #[.int .i64 c, .int .i64 d]] w fun e w' => e = .returned (.int .i64 (if a - c = 0 then b - d else a - c)) ∧
      ∃ os, w' = grow w os := by
  have hs1 : wrap64 (a - c) = a - c := by simp [wrap64]; omega
  have hs2 : wrap64 (b - d) = b - d := by simp [wrap64]; omega
  have HO := Lib.hid (fun W (h0 : W.cell? ⟨w.heap.size + 1 + 1, 0, none⟩ = some (.int .i64 (a - c))) (h1 : W.cell? ((⟨w.heap.size + 1 + 1, 0, none⟩ : Addr).add 1) = some (.int .i64 (b - d))) => or_walk ⟨w.heap.size + 1 + 1, 0, none⟩ 2 (a - c) (b - d) W h0 h1)
  obtain ⟨r, hr⟩ : ∃ r, (if a - c = 0 then b - d else a - c) = r := ⟨_, rfl⟩
  rw [hr] at HO ⊢
  clear ha hb hc hd hr
  go_enter Tryd.func25, Tryd.ntmps25
  go_wp2_with fail
  refine (HO.out _ ?_ ?_).mono ?_
  · have h := Blk.new ((w.alloc (.cells #[.int .i64 a, .int .i64 b] 56)).alloc (.cells #[.int .i64 c, .int .i64 d] 56)) 3 #[.int .i64 (a - c), .int .i64 (b - d)]
    rw [World.size_alloc, World.size_alloc] at h
    rw [h.cell]
    rfl
  · have h := Blk.new ((w.alloc (.cells #[.int .i64 a, .int .i64 b] 56)).alloc (.cells #[.int .i64 c, .int .i64 d] 56)) 3 #[.int .i64 (a - c), .int .i64 (b - d)]
    rw [World.size_alloc, World.size_alloc] at h
    exact h.cell 1
  · rintro e w1 ⟨rfl, h1⟩
    subst w1
    clear HO
    go_wp2_with fail
    go_ret
    exact ⟨rfl, _, by rw [alloc_eq_grow, alloc_eq_grow, alloc_eq_grow, grow_grow, grow_grow]⟩

theorem due_lays (blk off size : Nat) (w : World) : CmpLays Tryd.prog 25 #[] encD 2 cfD blk off size w := fun m os dk hs x y => by
  refine (due_closure (x.1.val : Int) (x.2.val : Int) (y.1.val : Int) (y.2.val : Int) (by have := x.1.isLt; omega) (by have := x.2.isLt; omega) (by have := y.1.isLt; omega) (by have := y.2.isLt; omega) _).mono ?_
  rintro e w' ⟨rfl, os', rfl⟩
  exact ⟨rfl, 0, os', rfl⟩

def Whs.lay_ren : Go.Shelf.Ren := ⟨fun | 6 => 24 | 15 => 38 | 14 => 37 | 28 => 57 | 29 => 58 | 20 => 49 | 21 => 50 | 22 => 51 | 23 => 52 | 24 => 53 | 25 => 54 | 26 => 55 | 27 => 56 | 46 => 63 | 47 => 64 | 48 => 65 | 49 => 66 | 50 => 67 | 57 => 76 | n => n, fun | 22 => 54 | 24 => 56 | 25 => 59 | 3 => 3 | 39 => 72 | 0 => 0 | 53 => 98 | 55 => 77 | 4 => 4 | 46 => 92 | 45 => 91 | 50 => 53 | 5 => 5 | 9 => 9 | 66 => 115 | 70 => 119 | 76 => 126 | 77 => 127 | n => n, fun | n => n⟩
theorem Whs.lay : Go.Proofs.SlLaysF0.n6 Tryd.prog Whs.lay_ren := {
  mixed := by kernel_rfl
  f6 := ⟨Tryd.f24.name, by decide, Tryd.func24.trans (congrArg some (by kernel_rfl))⟩
  f14 := ⟨Tryd.f37.name, by decide, Tryd.func37.trans (congrArg some (by kernel_rfl))⟩
  f15 := Tryd.func38.trans (congrArg some (by kernel_rfl))
  f20 := ⟨Tryd.f49.name, by decide, Tryd.func49.trans (congrArg some (by kernel_rfl))⟩
  f21 := ⟨Tryd.f50.name, by decide, Tryd.func50.trans (congrArg some (by kernel_rfl))⟩
  f22 := ⟨Tryd.f51.name, by decide, Tryd.func51.trans (congrArg some (by kernel_rfl))⟩
  f23 := ⟨Tryd.f52.name, by decide, Tryd.func52.trans (congrArg some (by kernel_rfl))⟩
  f24 := ⟨Tryd.f53.name, by decide, Tryd.func53.trans (congrArg some (by kernel_rfl))⟩
  f25 := ⟨Tryd.f54.name, by decide, Tryd.func54.trans (congrArg some (by kernel_rfl))⟩
  f26 := ⟨Tryd.f55.name, by decide, Tryd.func55.trans (congrArg some (by kernel_rfl))⟩
  f27 := ⟨Tryd.f56.name, by decide, Tryd.func56.trans (congrArg some (by kernel_rfl))⟩
  f28 := Tryd.func57.trans (congrArg some (by kernel_rfl))
  f29 := Tryd.func58.trans (congrArg some (by kernel_rfl))
  f46 := ⟨Tryd.f63.name, by decide, Tryd.func63.trans (congrArg some (by kernel_rfl))⟩
  f47 := Tryd.func64.trans (congrArg some (by kernel_rfl))
  f48 := Tryd.func65.trans (congrArg some (by kernel_rfl))
  f49 := ⟨Tryd.f66.name, by decide, Tryd.func66.trans (congrArg some (by kernel_rfl))⟩
  f50 := ⟨Tryd.f67.name, by decide, Tryd.func67.trans (congrArg some (by kernel_rfl))⟩
  f57 := ⟨Tryd.f76.name, by decide, Tryd.func76.trans (congrArg some (by kernel_rfl))⟩
  t0 := Tryd.underlying0
  a0 := Tryd.isAgg0
  z0 := Tryd.sizeOf0
  v0 := Tryd.zeroValue0
  t3 := Tryd.underlying3
  a3 := Tryd.isAgg3
  z3 := Tryd.sizeOf3
  v3 := Tryd.zeroValue3
  t4 := Tryd.underlying4
  a4 := Tryd.isAgg4
  z4 := Tryd.sizeOf4
  v4 := Tryd.zeroValue4
  t5 := Tryd.underlying5
  a5 := Tryd.isAgg5
  z5 := Tryd.sizeOf5
  v5 := Tryd.zeroValue5
  t9 := Tryd.underlying9
  a9 := Tryd.isAgg9
  z9 := Tryd.sizeOf9
  v9 := Tryd.zeroValue9
  t22 := Tryd.underlying54
  a22 := Tryd.isAgg54
  z22 := Tryd.sizeOf54
  v22 := Tryd.zeroValue54
  t25 := Tryd.underlying59
  a25 := Tryd.isAgg59
  z25 := Tryd.sizeOf59
  v25 := Tryd.zeroValue59
  t39 := Tryd.underlying72
  a39 := Tryd.isAgg72
  z39 := Tryd.sizeOf72
  v39 := Tryd.zeroValue72
  t45 := Tryd.underlying91
  a45 := Tryd.isAgg91
  z45 := Tryd.sizeOf91
  v45 := Tryd.zeroValue91
  t46 := Tryd.underlying92
  a46 := Tryd.isAgg92
  z46 := Tryd.sizeOf92
  v46 := Tryd.zeroValue92
  t50 := Tryd.underlying53
  a50 := Tryd.isAgg53
  z50 := Tryd.sizeOf53
  v50 := Tryd.zeroValue53
  t53 := Tryd.underlying98
  a53 := Tryd.isAgg98
  z53 := Tryd.sizeOf98
  v53 := Tryd.zeroValue98
  t55 := Tryd.underlying77
  a55 := Tryd.isAgg77
  z55 := Tryd.sizeOf77
  v55 := Tryd.zeroValue77
  t66 := Tryd.underlying115
  a66 := Tryd.isAgg115
  z66 := Tryd.sizeOf115
  v66 := Tryd.zeroValue115
  t70 := Tryd.underlying119
  a70 := Tryd.isAgg119
  z70 := Tryd.sizeOf119
  v70 := Tryd.zeroValue119
  t76 := Tryd.underlying126
  a76 := Tryd.isAgg126
  z76 := Tryd.sizeOf126
  v76 := Tryd.zeroValue126
  t77 := Tryd.underlying127
  a77 := Tryd.isAgg127
  z77 := Tryd.sizeOf127
  v77 := Tryd.zeroValue127 }

theorem dueAgg (w : World) : (isAgg 56).run Tryd.prog w = .ok true w := by kernel_rfl
theorem dueSize (w : World) : (Go.sizeOf 56).run Tryd.prog w = .ok 2 w := by kernel_rfl

def nth (l : List Nat) (k : Nat) : Nat := l.getD k 0
theorem nth_mem {l : List Nat} {k : Nat} (h : k < l.length) : nth l k ∈ l := by
  unfold nth
  rw [List.getD_eq_getElem?_getD, List.getElem?_eq_getElem h]
  exact List.getElem_mem _
/-- The cells of a list of those that are due: time and id in turn. -/
def cellD (due : Nat → Int) (l : List Nat) (t : Nat) : Value := if t % 2 = 0 then .int .i64 (due (nth l (t / 2))) else .int .i64 (nth l (t / 2) : Int)

theorem flat_due {now : Int} {due : Nat → Int} (hT : Tm now due) {l : List Nat} (hl : ∀ i ∈ l, i < 64) {t : Nat} (ht : t < l.length * 2) : (flatK encD 2 (l.map (elA due)).toArray)[t]! = cellD due l t := by
  have hk : t / 2 < l.length := by omega
  rw [get_flatK encD 2 _ t (by simpa using ht)]
  have e : (l.map (elA due)).toArray[t / 2]! = elA due (nth l (t / 2)) := by
    rw [getElem!_pos _ _ (by simpa using hk)]
    simp only [List.getElem_toArray, List.getElem_map]
    unfold nth
    rw [List.getD_eq_getElem?_getD, List.getElem?_eq_getElem hk]
    rfl
  have hm := hl _ (nth_mem hk)
  have tm := hT.due _ hm
  have lo := hT.lo
  rw [e, encD_el hm (by omega) (by omega)]
  unfold cellD
  rcases Nat.mod_two_eq_zero_or_one t with h | h
  · rw [h, if_pos rfl]; rfl
  · rw [h, if_neg (by omega)]; rfl

set_option maxHeartbeats 1000000 in
theorem wsort_walk {now : Int} {due : Nat → Int} (hT : Tm now due) {y : Int} {l : List Nat} (hn : l.Nodup) (hm : ∀ i, i ∈ l ↔ i < 64 ∧ 0 < due i ∧ due i ≤ y) (blk cap : Nat) (w : World)
    (hc : ∀ t, t < l.length * 2 → w.cell? ⟨blk, t, none⟩ = some (cellD due l t) ∧ w.frozen? ⟨blk, t, none⟩ = false) (hblk : blk < w.heap.size) :
    Calls Tryd.prog 24 #[.slice (some ⟨blk, 0, none⟩) l.length cap, .func (.func 25) #[] #[]] w fun e w' => e = .returned (.tuple #[]) ∧
      Fr (fun k => k = blk) w w' ∧ ∀ t, t < l.length * 2 → w'.cell? ⟨blk, t, none⟩ = some (cellD due (dueL due y) t) := by
  have eg : ∀ args w, (callFunc 25 args).run Tryd.prog w = .ok (.enter 25 args) w := fun args w => enters_go Tryd.func25 (by kernel_rfl) (by kernel_rfl) args w
  have hl : ∀ i ∈ l, i < 64 := fun i hi => ((hm i).1 hi).1
  have hH : HoldsK encD 2 w blk 0 (l.map (elA due)).toArray := fun t ht => by
    have ht' : t < l.length * 2 := by simpa using ht
    rw [flat_due hT hl ht', Nat.zero_add]
    exact hc t ht'
  have hlen : (dueL due y).length = l.length := ((perm_of_mem hn hm).trans (dueL_perm due y).symm).length_eq.symm
  have h64 := dueL_le due y
  have := AnyQ.slices_SortFunc_total Whs.lay 2 dueAgg dueSize encD (fun _ => rfl) (fun x v hv => by simp [encD] at hv; rcases hv with rfl | rfl <;> rfl) cfD cfD_swo 25 #[] blk 0 cap (l.map (elA due)).toArray w eg (due_lays blk 0 _ w) hH hblk (by simp; omega) cfD_total
  rw [show (l.map (elA due)).toArray.size = l.length by simp] at this
  refine Calls.mono (f := 24) (args := #[.slice (some ⟨blk, 0, none⟩) l.length cap, .func (.func 25) #[] #[]]) this ?_
  rintro e w' ⟨rfl, n, os, rfl⟩
  refine ⟨rfl, ⟨rfl, rfl, rfl, ?_, fun k hk hne => ?_⟩, fun t ht => ?_⟩
  · simp [sortWorldK, putRowK, putRow, mapBlock, Sort.ahead]
  · simp only [sortWorldK]
    rw [heap_grow_old _ _ (by simpa [putRowK, putRow, mapBlock, Sort.ahead] using hk)]
    simp [putRowK, putRow, mapBlock, Sort.ahead, Array.getElem?_modify, show blk ≠ k from fun e => hne e.symm]
  · have e1 : ((l.map (elA due)).toArray.toList.mergeSort fun x y => !(ltOf cfD) y x) = (dueL due y).map (elA due) := sorted_due hT hn hm
    rw [e1]
    have h1 : ∀ {W : World} {a : Addr} {x : Value}, W.cell? a = some x → (grow W os).cell? a = some x := fun {W a x} h => (World.cell?_of_block (Array.getElem?_append_left (World.block_lt_of_cell? W _ h))).trans h
    refine h1 ?_
    have := cell?_putRow id (Sort.ahead w n) blk 0 (flatK encD 2 (l.map (elA due)).toArray) (flatK encD 2 ((dueL due y).map (elA due)).toArray) hH (by simp [hlen]) t (by simpa [hlen] using ht)
    rw [Nat.zero_add] at this
    refine Eq.trans this ?_
    rw [flat_due hT (fun i hi => (dueL_mem.1 hi).1) (by rw [hlen]; exact ht)]
    rfl

theorem wsort_none (p : Option Addr) (cap : Nat) (fv : Value) (w : World) : Calls Tryd.prog 24 #[.slice p 0 cap, fv] w fun e w' => e = .returned (.tuple #[]) ∧ w' = w := AnyF.slices_SortFunc_none { Whs.lay with } p cap fv w

end Go.Proofs.YtfdldjlaedfllaaDoor

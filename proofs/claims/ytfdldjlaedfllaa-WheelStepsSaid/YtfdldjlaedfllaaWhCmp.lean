/- Which of two that are due stands ahead: the walk of Tick's closure; the sort. -/
import Derived.Shelf.SlSortCmp.NoneTotal
import Derived.Shelf.SlGeneric
import Derived.Test.YtfdldjlaedfllaaWhLaw
import Derived.Test.YtfdldjlaedfllaaPickMix
import Derived.Test.YtfdldjlaedfllaaHeld
namespace Go.Proofs.Ytfdldjlaedfllaa
open Go.Shelf Go.RowKit Go.Lib Go.Sort
set_option linter.unusedVariables false

set_option maxRecDepth 100000 in
set_option maxHeartbeats 1000000 in
theorem due_closure (a b c d : Int) (ha : 0 ≤ a ∧ a ≤ 1099511627776) (hb : 0 ≤ b ∧ b < 64) (hc : 0 ≤ c ∧ c ≤ 1099511627776) (hd : 0 ≤ d ∧ d < 64) (w : World) :
    Calls Try.prog 20 #[.agg #[.int .i64 a, .int .i64 b], .agg #[.int .i64 c, .int .i64 d]] w fun e w' => e = .returned (.int .i64 (if a - c = 0 then b - d else a - c)) ∧
      ∃ os, w' = grow w os := by
  have hs1 : wrap64 (a - c) = a - c := by simp [wrap64]; omega
  have hs2 : wrap64 (b - d) = b - d := by simp [wrap64]; omega
  have HO := Lib.hid (fun W (h0 : W.cell? ⟨w.heap.size + 1 + 1, 0, none⟩ = some (.int .i64 (a - c))) (h1 : W.cell? ((⟨w.heap.size + 1 + 1, 0, none⟩ : Addr).add 1) = some (.int .i64 (b - d))) => or_walk ⟨w.heap.size + 1 + 1, 0, none⟩ 2 (a - c) (b - d) W h0 h1)
  obtain ⟨r, hr⟩ : ∃ r, (if a - c = 0 then b - d else a - c) = r := ⟨_, rfl⟩
  rw [hr] at HO ⊢
  clear ha hb hc hd hr
  go_enter Try.func20, Try.ntmps20
  go_wp2_with fail
  refine (HO.out _ ?_ ?_).mono ?_
  · have h := Blk.new ((w.alloc (.cells #[.int .i64 a, .int .i64 b] 51)).alloc (.cells #[.int .i64 c, .int .i64 d] 51)) 3 #[.int .i64 (a - c), .int .i64 (b - d)]
    rw [World.size_alloc, World.size_alloc] at h
    rw [h.cell]
    rfl
  · have h := Blk.new ((w.alloc (.cells #[.int .i64 a, .int .i64 b] 51)).alloc (.cells #[.int .i64 c, .int .i64 d] 51)) 3 #[.int .i64 (a - c), .int .i64 (b - d)]
    rw [World.size_alloc, World.size_alloc] at h
    exact h.cell 1
  · rintro e w1 ⟨rfl, h1⟩
    subst w1
    clear HO
    go_wp2_with fail
    go_ret
    exact ⟨rfl, _, by rw [alloc_eq_grow, alloc_eq_grow, alloc_eq_grow, grow_grow, grow_grow]⟩

theorem due_lays (blk off size : Nat) (w : World) : CmpLays Try.prog 20 #[] encD 2 cfD blk off size w := fun m os dk hs x y => by
  refine (due_closure (x.1.val : Int) (x.2.val : Int) (y.1.val : Int) (y.2.val : Int) (by have := x.1.isLt; omega) (by have := x.2.isLt; omega) (by have := y.1.isLt; omega) (by have := y.2.isLt; omega) _).mono ?_
  rintro e w' ⟨rfl, os', rfl⟩
  exact ⟨rfl, 0, os', rfl⟩

def Whs.lay_ren : Go.Shelf.Ren := ⟨fun | 6 => 19 | 15 => 31 | 14 => 30 | 28 => 46 | 29 => 47 | 20 => 38 | 21 => 39 | 22 => 40 | 23 => 41 | 24 => 42 | 25 => 43 | 26 => 44 | 27 => 45 | 46 => 49 | 47 => 50 | 48 => 51 | 49 => 52 | 50 => 53 | 57 => 62 | n => n, fun | 22 => 49 | 24 => 51 | 25 => 54 | 3 => 3 | 39 => 65 | 0 => 0 | 53 => 79 | 55 => 70 | 4 => 4 | 46 => 73 | 45 => 72 | 50 => 62 | 5 => 5 | 9 => 9 | 66 => 82 | 70 => 86 | 76 => 93 | 77 => 94 | n => n, fun | n => n⟩
theorem Whs.lay : Go.Proofs.SlLaysF0.n6 Try.prog Whs.lay_ren := {
  mixed := by kernel_rfl
  f6 := ⟨Try.f19.name, by decide, Try.func19.trans (congrArg some (by kernel_rfl))⟩
  f14 := ⟨Try.f30.name, by decide, Try.func30.trans (congrArg some (by kernel_rfl))⟩
  f15 := Try.func31.trans (congrArg some (by kernel_rfl))
  f20 := ⟨Try.f38.name, by decide, Try.func38.trans (congrArg some (by kernel_rfl))⟩
  f21 := ⟨Try.f39.name, by decide, Try.func39.trans (congrArg some (by kernel_rfl))⟩
  f22 := ⟨Try.f40.name, by decide, Try.func40.trans (congrArg some (by kernel_rfl))⟩
  f23 := ⟨Try.f41.name, by decide, Try.func41.trans (congrArg some (by kernel_rfl))⟩
  f24 := ⟨Try.f42.name, by decide, Try.func42.trans (congrArg some (by kernel_rfl))⟩
  f25 := ⟨Try.f43.name, by decide, Try.func43.trans (congrArg some (by kernel_rfl))⟩
  f26 := ⟨Try.f44.name, by decide, Try.func44.trans (congrArg some (by kernel_rfl))⟩
  f27 := ⟨Try.f45.name, by decide, Try.func45.trans (congrArg some (by kernel_rfl))⟩
  f28 := Try.func46.trans (congrArg some (by kernel_rfl))
  f29 := Try.func47.trans (congrArg some (by kernel_rfl))
  f46 := ⟨Try.f49.name, by decide, Try.func49.trans (congrArg some (by kernel_rfl))⟩
  f47 := Try.func50.trans (congrArg some (by kernel_rfl))
  f48 := Try.func51.trans (congrArg some (by kernel_rfl))
  f49 := ⟨Try.f52.name, by decide, Try.func52.trans (congrArg some (by kernel_rfl))⟩
  f50 := ⟨Try.f53.name, by decide, Try.func53.trans (congrArg some (by kernel_rfl))⟩
  f57 := ⟨Try.f62.name, by decide, Try.func62.trans (congrArg some (by kernel_rfl))⟩
  t0 := Try.underlying0
  a0 := Try.isAgg0
  z0 := Try.sizeOf0
  v0 := Try.zeroValue0
  t3 := Try.underlying3
  a3 := Try.isAgg3
  z3 := Try.sizeOf3
  v3 := Try.zeroValue3
  t4 := Try.underlying4
  a4 := Try.isAgg4
  z4 := Try.sizeOf4
  v4 := Try.zeroValue4
  t5 := Try.underlying5
  a5 := Try.isAgg5
  z5 := Try.sizeOf5
  v5 := Try.zeroValue5
  t9 := Try.underlying9
  a9 := Try.isAgg9
  z9 := Try.sizeOf9
  v9 := Try.zeroValue9
  t22 := Try.underlying49
  a22 := Try.isAgg49
  z22 := Try.sizeOf49
  v22 := Try.zeroValue49
  t25 := Try.underlying54
  a25 := Try.isAgg54
  z25 := Try.sizeOf54
  v25 := Try.zeroValue54
  t39 := Try.underlying65
  a39 := Try.isAgg65
  z39 := Try.sizeOf65
  v39 := Try.zeroValue65
  t45 := Try.underlying72
  a45 := Try.isAgg72
  z45 := Try.sizeOf72
  v45 := Try.zeroValue72
  t46 := Try.underlying73
  a46 := Try.isAgg73
  z46 := Try.sizeOf73
  v46 := Try.zeroValue73
  t50 := Try.underlying62
  a50 := Try.isAgg62
  z50 := Try.sizeOf62
  v50 := Try.zeroValue62
  t53 := Try.underlying79
  a53 := Try.isAgg79
  z53 := Try.sizeOf79
  v53 := Try.zeroValue79
  t55 := Try.underlying70
  a55 := Try.isAgg70
  z55 := Try.sizeOf70
  v55 := Try.zeroValue70
  t66 := Try.underlying82
  a66 := Try.isAgg82
  z66 := Try.sizeOf82
  v66 := Try.zeroValue82
  t70 := Try.underlying86
  a70 := Try.isAgg86
  z70 := Try.sizeOf86
  v70 := Try.zeroValue86
  t76 := Try.underlying93
  a76 := Try.isAgg93
  z76 := Try.sizeOf93
  v76 := Try.zeroValue93
  t77 := Try.underlying94
  a77 := Try.isAgg94
  z77 := Try.sizeOf94
  v77 := Try.zeroValue94 }

theorem dueAgg (w : World) : (isAgg 51).run Try.prog w = .ok true w := by kernel_rfl
theorem dueSize (w : World) : (Go.sizeOf 51).run Try.prog w = .ok 2 w := by kernel_rfl

def nth (l : List Nat) (k : Nat) : Nat := l.getD k 0
theorem nth_mem {l : List Nat} {k : Nat} (h : k < l.length) : nth l k ∈ l := by
  unfold nth
  rw [List.getD_eq_getElem?_getD, List.getElem?_eq_getElem h]
  exact List.getElem_mem _
/-- The cells of a list of those that are due: time and id in turn. -/
def cellD (due : Nat → Int) (l : List Nat) (t : Nat) : Value := if t % 2 = 0 then .int .i64 (due (nth l (t / 2))) else .int .i64 (nth l (t / 2) : Int)

theorem flat_due {now : Int} {due : Nat → Int} (hT : Tm now due) {l : List Nat} (hl : ∀ i ∈ l, i < 64) {t : Nat} (ht : t < l.length * 2) : (flatK encD 2 (l.map (elA due)).toArray)[t]! = cellD due l t := by
  have hk : t / 2 < l.length := by omega
  rw [get_flatK encD 2 _ t (by simpa using ht)]
  have e : (l.map (elA due)).toArray[t / 2]! = elA due (nth l (t / 2)) := by
    rw [getElem!_pos _ _ (by simpa using hk)]
    simp only [List.getElem_toArray, List.getElem_map]
    unfold nth
    rw [List.getD_eq_getElem?_getD, List.getElem?_eq_getElem hk]
    rfl
  have hm := hl _ (nth_mem hk)
  have tm := hT.due _ hm
  have lo := hT.lo
  rw [e, encD_el hm (by omega) (by omega)]
  unfold cellD
  rcases Nat.mod_two_eq_zero_or_one t with h | h
  · rw [h, if_pos rfl]; rfl
  · rw [h, if_neg (by omega)]; rfl

set_option maxHeartbeats 1000000 in
theorem wsort_walk {now : Int} {due : Nat → Int} (hT : Tm now due) {y : Int} {l : List Nat} (hn : l.Nodup) (hm : ∀ i, i ∈ l ↔ i < 64 ∧ 0 < due i ∧ due i ≤ y) (blk cap : Nat) (w : World)
    (hc : ∀ t, t < l.length * 2 → w.cell? ⟨blk, t, none⟩ = some (cellD due l t) ∧ w.frozen? ⟨blk, t, none⟩ = false) (hblk : blk < w.heap.size) :
    Calls Try.prog 19 #[.slice (some ⟨blk, 0, none⟩) l.length cap, .func (.func 20) #[] #[]] w fun e w' => e = .returned (.tuple #[]) ∧
      Fr (fun k => k = blk) w w' ∧ ∀ t, t < l.length * 2 → w'.cell? ⟨blk, t, none⟩ = some (cellD due (dueL due y) t) := by
  have eg : ∀ args w, (callFunc 20 args).run Try.prog w = .ok (.enter 20 args) w := fun args w => enters_go Try.func20 (by kernel_rfl) (by kernel_rfl) args w
  have hl : ∀ i ∈ l, i < 64 := fun i hi => ((hm i).1 hi).1
  have hH : HoldsK encD 2 w blk 0 (l.map (elA due)).toArray := fun t ht => by
    have ht' : t < l.length * 2 := by simpa using ht
    rw [flat_due hT hl ht', Nat.zero_add]
    exact hc t ht'
  have hlen : (dueL due y).length = l.length := ((perm_of_mem hn hm).trans (dueL_perm due y).symm).length_eq.symm
  have h64 := dueL_le due y
  have := AnyQ.slices_SortFunc_total Whs.lay 2 dueAgg dueSize encD (fun _ => rfl) (fun x v hv => by simp [encD] at hv; rcases hv with rfl | rfl <;> rfl) cfD cfD_swo 20 #[] blk 0 cap (l.map (elA due)).toArray w eg (due_lays blk 0 _ w) hH hblk (by simp; omega) cfD_total
  rw [show (l.map (elA due)).toArray.size = l.length by simp] at this
  refine Calls.mono (f := 19) (args := #[.slice (some ⟨blk, 0, none⟩) l.length cap, .func (.func 20) #[] #[]]) this ?_
  rintro e w' ⟨rfl, n, os, rfl⟩
  refine ⟨rfl, ⟨rfl, rfl, rfl, ?_, fun k hk hne => ?_⟩, fun t ht => ?_⟩
  · simp [sortWorldK, putRowK, putRow, mapBlock, Sort.ahead]
  · simp only [sortWorldK]
    rw [heap_grow_old _ _ (by simpa [putRowK, putRow, mapBlock, Sort.ahead] using hk)]
    simp [putRowK, putRow, mapBlock, Sort.ahead, Array.getElem?_modify, show blk ≠ k from fun e => hne e.symm]
  · have e1 : ((l.map (elA due)).toArray.toList.mergeSort fun x y => !(ltOf cfD) y x) = (dueL due y).map (elA due) := sorted_due hT hn hm
    rw [e1]
    have h1 : ∀ {W : World} {a : Addr} {x : Value}, W.cell? a = some x → (grow W os).cell? a = some x := fun {W a x} h => (World.cell?_of_block (Array.getElem?_append_left (World.block_lt_of_cell? W _ h))).trans h
    refine h1 ?_
    have := cell?_putRow id (Sort.ahead w n) blk 0 (flatK encD 2 (l.map (elA due)).toArray) (flatK encD 2 ((dueL due y).map (elA due)).toArray) hH (by simp [hlen]) t (by simpa [hlen] using ht)
    rw [Nat.zero_add] at this
    refine Eq.trans this ?_
    rw [flat_due hT (fun i hi => (dueL_mem.1 hi).1) (by rw [hlen]; exact ht)]
    rfl

theorem wsort_none (p : Option Addr) (cap : Nat) (fv : Value) (w : World) : Calls Try.prog 19 #[.slice p 0 cap, fv] w fun e w' => e = .returned (.tuple #[]) ∧ w' = w := AnyF.slices_SortFunc_none { Whs.lay with } p cap fv w

end Go.Proofs.Ytfdldjlaedfllaa

/- What is due by a time, in its order: plain laws. -/
import Derived.Shelf.SlSortCmp.NoneTotal
import Derived.Test.YtfdldjlaedfllaaDoorWhMem
namespace Go.Proofs.YtfdldjlaedfllaaDoor
open Go.Shelf Go.RowKit Go.Lib Go.Sort
set_option linter.unusedVariables false

theorem msort_sorted {α : Type} {lt : α → α → Bool} (hs : SWO lt) (l : List α) : (l.mergeSort fun x y => !lt y x).Pairwise fun x y => lt y x = false := by
  have h := List.pairwise_mergeSort (le := fun x y => !lt y x) (fun a b c h1 h2 => by
    simp only [Bool.not_eq_true'] at *
    exact hs.ntrans c b a h2 h1) (fun a b => by
    simp only [Bool.or_eq_true, Bool.not_eq_true']
    rcases h : lt b a with _ | _
    · exact .inl rfl
    · right
      rcases h2 : lt a b with _ | _
      · rfl
      · have := hs.trans a b a h2 h
        rw [hs.irrefl] at this
        cases this) l
  refine h.imp ?_
  intro a b h
  simpa using h

/-- Which of two ids is due ahead. -/
def bef (due : Nat → Int) (i j : Nat) : Bool := decide (due i < due j ∨ (due i = due j ∧ i < j))
theorem bef_swo (due : Nat → Int) : SWO (bef due) where
  irrefl x := by unfold bef; simp
  trans x y z h1 h2 := by unfold bef at *; simp only [decide_eq_true_eq] at *; omega
  ntrans x y z h1 h2 := by unfold bef at *; simp only [decide_eq_false_iff_not] at *; omega
theorem bef_total {due : Nat → Int} {i j : Nat} (h1 : bef due i j = false) (h2 : bef due j i = false) : i = j := by
  unfold bef at *; simp only [decide_eq_false_iff_not] at *; omega

/-- Is an id due by y? -/
def isDue (due : Nat → Int) (y : Int) (i : Nat) : Bool := decide (0 < due i ∧ due i ≤ y)
/-- What is due by y, in its order. -/
def dueL (due : Nat → Int) (y : Int) : List Nat := ((List.range 64).filter (isDue due y)).mergeSort fun i j => !bef due j i

theorem dueL_perm (due : Nat → Int) (y : Int) : (dueL due y).Perm ((List.range 64).filter (isDue due y)) := List.mergeSort_perm _ _
theorem dueL_mem {due : Nat → Int} {y : Int} {i : Nat} : i ∈ dueL due y ↔ i < 64 ∧ 0 < due i ∧ due i ≤ y := by
  rw [(dueL_perm due y).mem_iff, List.mem_filter, List.mem_range]
  unfold isDue
  simp
theorem dueL_nodup (due : Nat → Int) (y : Int) : (dueL due y).Nodup := (dueL_perm due y).symm.nodup (List.nodup_range.filter _)
theorem dueL_sorted (due : Nat → Int) (y : Int) : (dueL due y).Pairwise fun i j => bef due j i = false := msort_sorted (bef_swo due) _
theorem dueL_only {due : Nat → Int} {y : Int} {l : List Nat} (hp : l.Perm ((List.range 64).filter (isDue due y))) (hs : l.Pairwise fun i j => bef due j i = false) : l = dueL due y :=
  List.Perm.eq_of_pairwise (le := fun i j => bef due j i = false) (fun a b _ _ h1 h2 => bef_total h2 h1) hs (dueL_sorted due y) (hp.trans (dueL_perm due y).symm)
theorem dueL_le (due : Nat → Int) (y : Int) : (dueL due y).length ≤ 64 := by
  rw [(dueL_perm due y).length_eq]
  have := List.length_filter_le (isDue due y) (List.range 64)
  simpa using this

/-- A list that has just those that are due, each once. -/
theorem perm_of_mem {due : Nat → Int} {y : Int} {l : List Nat} (hn : l.Nodup) (hm : ∀ i, i ∈ l ↔ i < 64 ∧ 0 < due i ∧ due i ≤ y) : l.Perm ((List.range 64).filter (isDue due y)) := by
  refine (List.perm_ext_iff_of_nodup hn (List.nodup_range.filter _)).2 fun i => ?_
  rw [hm, List.mem_filter, List.mem_range]
  unfold isDue
  simp

/-! ### as the sort sees them -/
abbrev DueA : Type := Fin 1099511627777 × Fin 64
instance : Inhabited DueA := ⟨(⟨0, by decide⟩, ⟨0, by decide⟩)⟩
def elA (due : Nat → Int) (i : Nat) : DueA := (⟨(due i).toNat % 1099511627777, Nat.mod_lt _ (by decide)⟩, ⟨i % 64, Nat.mod_lt _ (by decide)⟩)
def encD (x : DueA) : List Value := [.int .i64 (x.1.val : Int), .int .i64 (x.2.val : Int)]
def cfD (x y : DueA) : Int := if ((x.1.val : Int) - y.1.val) = 0 then (x.2.val : Int) - y.2.val else (x.1.val : Int) - y.1.val
theorem cfD_lt (x y : DueA) : ltOf cfD x y = decide (x.1.val < y.1.val ∨ (x.1.val = y.1.val ∧ x.2.val < y.2.val)) := by
  unfold ltOf cfD
  generalize x.1.val = a
  generalize y.1.val = b
  generalize x.2.val = c
  generalize y.2.val = d
  by_cases h : ((a : Int) - b) = 0
  · rw [if_pos h]
    exact decide_eq_decide.2 (by omega)
  · rw [if_neg h]
    exact decide_eq_decide.2 (by omega)
theorem cfD_swo : SWO (ltOf cfD) where
  irrefl x := by rw [cfD_lt]; simp
  trans x y z h1 h2 := by rw [cfD_lt] at *; simp only [decide_eq_true_eq] at *; omega
  ntrans x y z h1 h2 := by rw [cfD_lt] at *; simp only [decide_eq_false_iff_not] at *; omega
theorem cfD_total (x y : DueA) (h1 : ltOf cfD x y = false) (h2 : ltOf cfD y x = false) : x = y := by
  rw [cfD_lt] at *
  simp only [decide_eq_false_iff_not] at *
  exact Prod.ext (Fin.ext (by omega)) (Fin.ext (by omega))

theorem elA_val {due : Nat → Int} {i : Nat} (hi : i < 64) (h0 : 0 ≤ due i) (h1 : due i ≤ 1099511627776) : ((elA due i).1.val : Int) = due i ∧ (elA due i).2.val = i := by
  unfold elA
  refine ⟨?_, Nat.mod_eq_of_lt hi⟩
  show (((due i).toNat % 1099511627777 : Nat) : Int) = due i
  rw [Nat.mod_eq_of_lt (by omega)]
  omega
theorem encD_el {due : Nat → Int} {i : Nat} (hi : i < 64) (h0 : 0 ≤ due i) (h1 : due i ≤ 1099511627776) : encD (elA due i) = [.int .i64 (due i), .int .i64 (i : Int)] := by
  unfold encD
  rw [(elA_val hi h0 h1).1, (elA_val hi h0 h1).2]

theorem lt_el {due : Nat → Int} {i j : Nat} (hi : i < 64) (h0 : 0 ≤ due i) (h1 : due i ≤ 1099511627776) (hj : j < 64) (k0 : 0 ≤ due j) (k1 : due j ≤ 1099511627776) : ltOf cfD (elA due i) (elA due j) = bef due i j := by
  rw [cfD_lt]
  have a := elA_val hi h0 h1
  have b := elA_val hj k0 k1
  unfold bef
  exact decide_eq_decide.2 (by omega)

/-- What the sort leaves. -/
theorem sorted_due {now : Int} {due : Nat → Int} (hT : Tm now due) {y : Int} {l : List Nat} (hn : l.Nodup) (hm : ∀ i, i ∈ l ↔ i < 64 ∧ 0 < due i ∧ due i ≤ y) :
    (l.map (elA due)).mergeSort (fun x y => !(ltOf cfD) y x) = (dueL due y).map (elA due) := by
  have hp : ((l.map (elA due)).mergeSort fun x y => !(ltOf cfD) y x).Perm ((dueL due y).map (elA due)) := (List.mergeSort_perm _ _).trans (((perm_of_mem hn hm).trans (dueL_perm due y).symm).map _)
  refine List.Perm.eq_of_pairwise (le := fun x y => ltOf cfD y x = false) (fun a b _ _ h1 h2 => cfD_total a b h2 h1) (msort_sorted cfD_swo _) ?_ hp
  rw [List.pairwise_map]
  refine (dueL_sorted due y).imp_of_mem ?_
  intro i j hi hj h
  have hi' := dueL_mem.1 hi
  have hj' := dueL_mem.1 hj
  have ti := hT.due i hi'.1
  have tj := hT.due j hj'.1
  rw [lt_el hj'.1 (by omega) (by omega) hi'.1 (by omega) (by omega)]
  exact h

end Go.Proofs.YtfdldjlaedfllaaDoor

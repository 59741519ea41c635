/- The order of hops: the plain laws of the list. -/
import Derived.Test.YtfdldjlaedfllaaDoorPickOrd
import Derived.Test.YtfdldjlaedfllaaDoorPick
import Derived.Test.YtfdldjlaedfllaaDoorOnce
namespace Go.Proofs.YtfdldjlaedfllaaDoor
open Go.Shelf Go.RowKit Go.Lib Go.Sort
set_option linter.unusedVariables false

/-- The hops in their order. -/
def hopsL (fl : Int) (zs : List Int) : List Int := zs.mergeSort fun x y => !(ltOf (ordC fl)) y x

theorem ord_total (fl x y : Int) (h1 : ltOf (ordC fl) x y = false) (h2 : ltOf (ordC fl) y x = false) : x = y := by
  rw [ord_lt] at h1 h2
  simp only [decide_eq_false_iff_not] at h1 h2
  omega

theorem hopsL_perm (fl : Int) (zs : List Int) : (hopsL fl zs).Perm zs := List.mergeSort_perm _ _
theorem hopsL_length (fl : Int) (zs : List Int) : (hopsL fl zs).length = zs.length := (hopsL_perm fl zs).length_eq
theorem hopsL_mem {fl : Int} {zs : List Int} {x : Int} : x ∈ hopsL fl zs ↔ x ∈ zs := (hopsL_perm fl zs).mem_iff
theorem hopsL_sorted (fl : Int) (zs : List Int) : (hopsL fl zs).Pairwise fun x y => ltOf (ordC fl) y x = false := by
  have h := List.pairwise_mergeSort (le := fun x y => !(ltOf (ordC fl)) y x) (fun a b c h1 h2 => by
    simp only [Bool.not_eq_true'] at *
    exact (ord_swo fl).ntrans c b a h2 h1) (fun a b => by
    simp only [Bool.or_eq_true, Bool.not_eq_true']
    rcases h : ltOf (ordC fl) b a with _ | _
    · exact .inl rfl
    · right
      rcases h2 : ltOf (ordC fl) a b with _ | _
      · rfl
      · have := (ord_swo fl).trans a b a h2 h
        rw [(ord_swo fl).irrefl] at this
        cases this) zs
  refine h.imp ?_
  intro a b h
  simpa using h

/-- There is one such list alone. -/
theorem hopsL_only {fl : Int} {zs l : List Int} (hp : l.Perm zs) (hs : l.Pairwise fun x y => ltOf (ordC fl) y x = false) : l = hopsL fl zs :=
  List.Perm.eq_of_pairwise (le := fun x y => ltOf (ordC fl) y x = false) (fun a b _ _ h1 h2 => ord_total fl a b h2 h1) hs (hopsL_sorted fl zs) (hp.trans (hopsL_perm fl zs).symm)

theorem hopsL_of_perm {fl : Int} {zs ys : List Int} (hp : ys.Perm zs) : hopsL fl ys = hopsL fl zs := hopsL_only ((hopsL_perm fl ys).trans hp) (hopsL_sorted fl ys)

theorem hopsL_filter (fl : Int) (zs : List Int) (q : Int → Bool) : hopsL fl (zs.filter q) = (hopsL fl zs).filter q :=
  (hopsL_only ((hopsL_perm fl zs).filter q) ((hopsL_sorted fl zs).filter q)).symm

theorem hopsL_nodup {fl : Int} {zs : List Int} (h : zs.Nodup) : (hopsL fl zs).Nodup := (hopsL_perm fl zs).symm.nodup h

/-- A list's numbers, none twice: by the index. -/
theorem once_nodup {zs : List Int} : OnceV zs.length (atL zs) ↔ zs.Nodup := by
  have e : ∀ i (h : i < zs.length), atL zs i = zs[i] := fun i h => by unfold atL; rw [List.getD_eq_getElem?_getD, List.getElem?_eq_getElem h]; rfl
  rw [List.nodup_iff_pairwise_ne, List.pairwise_iff_getElem]
  constructor
  · intro h i j hi hj hij he
    refine h j hj i hij ?_
    rw [e _ hi, e _ hj, he]
  · intro h i hi j hj he
    rw [e _ hi, e _ (by omega)] at he
    exact h j i (by omega) hi hj he

/-- Whose own hop is gone goes on by the next one; all others stay. -/
theorem hops_gone {fl gone : Int} {zs : List Int} (h : zs.Nodup) (h0 : (zs.filter fun x => x != gone) ≠ []) :
    atL (hopsL fl (zs.filter fun x => x != gone)) 0 = if atL (hopsL fl zs) 0 = gone then atL (hopsL fl zs) 1 else atL (hopsL fl zs) 0 := by
  have hne : hopsL fl (zs.filter fun x => x != gone) ≠ [] := fun h2 => h0 (List.eq_nil_of_length_eq_zero (by rw [← hopsL_length fl, h2]; rfl))
  have hn := hopsL_nodup (fl := fl) h
  rw [hopsL_filter] at *
  generalize hopsL fl zs = l at *
  cases l with
  | nil => exact absurd rfl hne
  | cons a l =>
    by_cases ha : a = gone
    · subst ha
      have e0 : atL (a :: l) 0 = a := rfl
      rw [if_pos e0]
      have hf : (a :: l).filter (fun x => x != a) = l := by
        rw [List.filter_cons_of_neg (by simp)]
        refine List.filter_eq_self.2 fun x hx => ?_
        have := (List.nodup_cons.1 hn).1
        simp only [bne_iff_ne, ne_eq]
        rintro rfl
        exact this hx
      rw [hf]
      rfl
    · have e0 : atL (a :: l) 0 = a := rfl
      rw [if_neg (by rw [e0]; exact ha), List.filter_cons_of_pos (by simpa using ha)]
      rfl

/-- With one more each stays, or goes to that. -/
theorem hops_more {fl more : Int} {zs : List Int} (hm : more ∉ zs) (h0 : zs ≠ []) :
    atL (hopsL fl (zs ++ [more])) 0 = atL (hopsL fl zs) 0 ∨ atL (hopsL fl (zs ++ [more])) 0 = more := by
  have hf : (zs ++ [more]).filter (fun x => x != more) = zs := by
    rw [List.filter_append, List.filter_eq_self.2 (fun x hx => by simp only [bne_iff_ne, ne_eq]; rintro rfl; exact hm hx)]
    simp
  have h := hopsL_filter fl (zs ++ [more]) fun x => x != more
  rw [hf] at h
  rw [h]
  have hl : (hopsL fl (zs ++ [more])).length = zs.length + 1 := by simp [hopsL_length]
  generalize hopsL fl (zs ++ [more]) = l at *
  cases l with
  | nil => simp at hl
  | cons a l =>
    by_cases ha : a = more
    · subst ha
      exact .inr rfl
    · left
      rw [List.filter_cons_of_pos (by simpa using ha)]
      rfl

end Go.Proofs.YtfdldjlaedfllaaDoor

/- The document's way to tell what is due: the best one, again and again: the plain law; the wheel beside the law's row. -/
import Derived.Test.YtfdldjlaedfllaaDoorWhUse
namespace Go.Proofs.YtfdldjlaedfllaaDoor
open Go.RowKit Go.Maps
set_option linter.unusedVariables false

/-- The best one of the first k, of those that are due by y; -1: none. -/
def BestI (D : Nat → Int) (y : Int) (k : Nat) (b : Int) : Prop :=
  (b = -1 ∧ ∀ t, t < k → ¬ (0 < D t ∧ D t ≤ y)) ∨ ∃ i : Nat, b = i ∧ i < k ∧ (0 < D i ∧ D i ≤ y) ∧ ∀ t, t < k → (0 < D t ∧ D t ≤ y) → bef D t i = false

section
variable {D due : Nat → Int} {y b : Int} {k j : Nat} {L : List Nat}
theorem BestI.start (D : Nat → Int) (y : Int) : BestI D y 0 (-1) := .inl ⟨rfl, fun t ht => absurd ht (by omega)⟩
theorem BestI.skip (h : BestI D y k b) (hk : ¬ (0 < D k ∧ D k ≤ y)) : BestI D y (k + 1) b := by
  rcases h with ⟨rfl, h⟩ | ⟨i, rfl, hi, hc, h⟩
  · refine .inl ⟨rfl, fun t ht => ?_⟩
    by_cases e : t = k
    · subst e; exact hk
    · exact h t (by omega)
  · refine .inr ⟨i, rfl, by omega, hc, fun t ht hct => ?_⟩
    by_cases e : t = k
    · subst e; exact absurd hct hk
    · exact h t (by omega) hct
theorem BestI.first (h : BestI D y k (-1)) (hk : 0 < D k ∧ D k ≤ y) : BestI D y (k + 1) k := by
  rcases h with ⟨-, h⟩ | ⟨i, e, _⟩
  · refine .inr ⟨k, rfl, by omega, hk, fun t ht hct => ?_⟩
    by_cases e : t = k
    · subst e; exact (Go.Sort.SWO.irrefl (bef_swo D) t)
    · exact absurd hct (h t (by omega))
  · omega
theorem BestI.take {i : Nat} (h : BestI D y k i) (hk : 0 < D k ∧ D k ≤ y) (hlt : D k < D i) : BestI D y (k + 1) k := by
  rcases h with ⟨e, h⟩ | ⟨i', e, hi, hc, h⟩
  · omega
  · obtain rfl : i = i' := by omega
    refine .inr ⟨k, rfl, by omega, hk, fun t ht hct => ?_⟩
    by_cases e : t = k
    · subst e; exact (Go.Sort.SWO.irrefl (bef_swo D) t)
    · have := h t (by omega) hct
      unfold bef at *
      simp only [decide_eq_false_iff_not] at *
      omega
theorem BestI.stay {i : Nat} (h : BestI D y k i) (hk : 0 < D k ∧ D k ≤ y) (hle : ¬ D k < D i) : BestI D y (k + 1) i := by
  rcases h with ⟨e, h⟩ | ⟨i', e, hi, hc, h⟩
  · omega
  · obtain rfl : i = i' := by omega
    refine .inr ⟨i, rfl, by omega, hc, fun t ht hct => ?_⟩
    by_cases e : t = k
    · subst e
      unfold bef
      simp only [decide_eq_false_iff_not]
      omega
    · exact h t (by omega) hct
theorem BestI.cases (h : BestI D y k b) : b = -1 ∨ ∃ i : Nat, b = i ∧ i < k := by
  rcases h with ⟨e, _⟩ | ⟨i, e, hi, _⟩
  · exact .inl e
  · exact .inr ⟨i, e, hi⟩

theorem nth_get {l : List Nat} {k : Nat} (h : k < l.length) : nth l k = l[k] := by
  unfold nth
  rw [List.getD_eq_getElem?_getD, List.getElem?_eq_getElem h]
  rfl

/-- None: all have been told. -/
theorem best_none (hL : dueL due y = L) (h : BestI (doneD due L j) y 64 (-1)) (hj : j ≤ L.length) : j = L.length := by
  rcases Nat.lt_or_ge j L.length with hlt | hge
  · exfalso
    rcases h with ⟨-, h⟩ | ⟨i, e, _⟩
    · have hm := nth_mem hlt
      rw [← hL] at hm
      have hd := dueL_mem.1 hm
      rw [hL] at hd
      refine h _ hd.1 ?_
      rw [doneD_at (by rw [← hL]; exact dueL_nodup due y) hlt]
      exact hd.2
    · omega
  · omega
/-- One: it is the next one. -/
theorem best_next {i : Nat} (hL : dueL due y = L) (h : BestI (doneD due L j) y 64 i) (hj : j ≤ L.length) : j < L.length ∧ i = nth L j := by
  rcases h with ⟨e, _⟩ | ⟨i', e, hi, hc, h⟩
  · omega
  · obtain rfl : i = i' := by omega
    have hni : i ∉ L.take j := fun hm => by
      unfold doneD at hc
      rw [if_pos hm] at hc
      omega
    have hdi : doneD due L j i = due i := by unfold doneD; rw [if_neg hni]
    rw [hdi] at hc
    have hm : i ∈ L := by rw [← hL]; exact dueL_mem.2 ⟨hi, hc⟩
    obtain ⟨q, hq, eq⟩ := List.getElem_of_mem hm
    have hqj : j ≤ q := by
      rcases Nat.lt_or_ge q j with hlt | hge
      · exact absurd (by rw [← eq]; exact List.mem_take_iff_getElem.2 ⟨q, by omega, rfl⟩) hni
      · exact hge
    have hjl : j < L.length := by omega
    refine ⟨hjl, ?_⟩
    have hnm := nth_mem hjl
    have hnd := hnm
    rw [← hL] at hnd
    have hnd := dueL_mem.1 hnd
    rw [hL] at hnd
    have hdn := doneD_at (due := due) (L := L) (by rw [← hL]; exact dueL_nodup due y) hjl
    have h1 := h (nth L j) hnd.1 (by rw [hdn]; exact hnd.2)
    have h1' : bef due (nth L j) i = false := by
      unfold bef at h1 ⊢
      rw [hdn, hdi] at h1
      exact h1
    rcases Nat.lt_or_ge j q with hlt | hge
    · have hs := dueL_sorted due y
      rw [hL, List.pairwise_iff_getElem] at hs
      have h2 := hs j q hjl hq hlt
      rw [eq, ← nth_get hjl] at h2
      exact bef_total h2 h1'
    · obtain rfl : q = j := by omega
      rw [nth_get hjl, eq]
end

/-- How many of the first k are due. -/
def cntTo (due : Nat → Int) : Nat → Nat
  | 0 => 0
  | k + 1 => cntTo due k + if 0 < due k then 1 else 0
theorem cntTo_le (due : Nat → Int) : ∀ k, cntTo due k ≤ k
  | 0 => Nat.le_refl _
  | k + 1 => by
    have := cntTo_le due k
    unfold cntTo
    split <;> omega
theorem cntTo_all {now : Int} {due : Nat → Int} (hT : Tm now due) : cntTo due 64 = cntD due := by
  have h : ∀ k, k ≤ 64 → cntTo due k = ((List.range k).filter fun i => decide (due i ≠ 0)).length := by
    intro k
    induction k with
    | zero => intro _; rfl
    | succ k ih =>
      intro hk
      have := hT.due k (by omega)
      have hlo := hT.lo
      rw [List.range_succ, List.filter_append, List.length_append, ← ih (by omega)]
      show cntTo due k + (if 0 < due k then 1 else 0) = _
      by_cases h0 : 0 < due k
      · rw [if_pos h0, List.filter_cons_of_pos (by simp; omega)]
        rfl
      · rw [if_neg h0, List.filter_cons_of_neg (by simp; omega)]
        rfl
  exact h 64 (Nat.le_refl _)

theorem doneD_end {due : Nat → Int} {y : Int} (i : Nat) (hi : i < 64) : doneD due (dueL due y) (dueL due y).length i = afterD due y i := by
  unfold doneD afterD isDue
  rw [List.take_of_length_le (Nat.le_refl _)]
  by_cases hm : i ∈ dueL due y
  · rw [if_pos hm, if_pos]
    simpa using (dueL_mem.1 hm).2
  · rw [if_neg hm, if_neg]
    simp only [decide_eq_true_eq]
    exact fun h => hm (dueL_mem.2 ⟨hi, h⟩)

/-- The wheel, and the law's own row (rd). -/
structure TellS (w : World) (gd p : Nat) (now : Int) (due rd : Nat → Int) (F : Nat → Prop) (wr : World) : Prop where
  wh : Wh wr F p 64 now due
  tm : Tm now due
  base : ∀ k, F k → w.heap.size ≤ k
  off : ¬ F gd
  own : w.heap.size ≤ gd
  row : RowP wr gd 3 64 (fun i => .int .i64 (rd i))
  bel : Below w.heap.size w wr

section
variable {w wr w' : World} {gd p N : Nat} {now now' : Int} {due due' rd rd' : Nat → Int} {F F' : Nat → Prop}
theorem TellS.act (h : TellS w gd p now due rd F wr) (hw : Wh w' F' p N now' due') (hF : ∀ k, F' k → F k ∨ wr.heap.size ≤ k) (hf : Fr F wr w') (ht : Tm now' due') : TellS w gd p now' due' rd F' w' := by
  refine ⟨hw.tight, ht, fun k hk => ?_, fun hk => ?_, h.own, h.row.of_block (hf.block gd h.row.lt h.off), h.bel.trans (hf.below h.bel.size h.base)⟩
  · rcases hF k hk with e | e
    · exact h.base k e
    · have := h.bel.size; omega
  · rcases hF gd hk with e | e
    · exact h.off e
    · have := h.row.lt; omega
theorem TellS.below (h : TellS w gd p now due rd F wr) (hb : Below wr.heap.size wr w') : TellS w gd p now due rd F w' :=
  ⟨h.wh.below hb, h.tm, h.base, h.off, h.own, h.row.of_block (hb.block gd h.row.lt), keep h.bel hb⟩
theorem TellS.drewN (h : TellS w gd p now due rd F wr) (q : Nat) : TellS w gd p now due rd F (wr.drewN q) := ⟨h.wh.drewN q, h.tm, h.base, h.off, h.own, h.row.drewN q, below_drewN h.bel q⟩
theorem TellS.put (h : TellS w gd p now due rd F wr) (i : Nat) (y : Int) (hr : ∀ k, k < 64 → rd' k = setD rd i y k) : TellS w gd p now due rd' F (wr.setCell ⟨gd, i, none⟩ (.int .i64 y)) := by
  refine ⟨h.wh.same fun k hk => Below.heap_setCell _ _ _ _ (fun e => h.off (by rw [← show k = gd from e]; exact hk)), h.tm, h.base, h.off, h.own, ?_, h.bel.setCell h.own _⟩
  refine (h.row.set i (.int .i64 y)).congr fun k hk => ?_
  rw [hr k hk]
  unfold upd setD
  split <;> rfl
/-- The law's row turns, nothing else. -/
theorem TellS.turn (h : TellS w gd p now due rd F wr) (hf : Fr (fun b => b = gd) wr w') (hrow : RowP w' gd 3 64 (fun i => .int .i64 (rd' i))) : TellS w gd p now due rd' F w' :=
  ⟨h.wh.keep hf (fun k hk e => h.off (by rw [← show k = gd from e]; exact hk)), h.tm, h.base, h.off, h.own, hrow, h.bel.trans (hf.below h.bel.size (fun b e => by rw [e]; exact h.own))⟩
end

/-- A slice's length. -/
def lenOf : Value → Nat
  | .slice _ n _ => n
  | _ => 0

end Go.Proofs.YtfdldjlaedfllaaDoor

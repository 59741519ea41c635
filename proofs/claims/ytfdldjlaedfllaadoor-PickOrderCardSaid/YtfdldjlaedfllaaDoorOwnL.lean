/- A list of numbers in a row of the call's own; an append of a whole slice. -/
import Derived.Test.YtfdldjlaedfllaaDoorOwnV
import Derived.Test.YtfdldjlaedfllaaDoorPick
import Derived.Test.YtfdldjlaedfllaaDoorOnce
namespace Go.Proofs.YtfdldjlaedfllaaDoor
open Go.RowKit
set_option linter.unusedVariables false

theorem range_atL (l : List Int) : (List.range l.length).map (atL l) = l := by
  apply List.ext_getElem?
  intro i
  rw [List.getElem?_map]
  rcases Nat.lt_or_ge i l.length with h | h
  · rw [List.getElem?_range h]
    simp [atL, List.getD_eq_getElem?_getD, h]
  · rw [List.getElem?_eq_none (by simpa using h), List.getElem?_eq_none h]; rfl
theorem atL_range {n : Nat} {f : Nat → Int} {i : Nat} (h : i < n) : atL ((List.range n).map f) i = f i := by
  unfold atL
  rw [List.getD_eq_getElem?_getD, List.getElem?_map, List.getElem?_range h]
  rfl

/-- What an own row is. -/
theorem OwnV.parts {w : World} {base : Nat} {v : Value} {n : Nat} {f : Nat → Int} (h : OwnV w base v n f) : ∃ A c, v = .slice A n c ∧ Vec w A n f ∧ n ≤ c ∧ c ≤ maxLen ∧ (A = none → c = 0) := by
  obtain ⟨A, c, rfl, hv⟩ := h.vec
  refine ⟨A, c, rfl, hv, ?_⟩
  rcases h.2 with ⟨e, rfl⟩ | ⟨g, cap, cur, e, _, _, h1, h2, _⟩
  · cases e; exact ⟨Nat.le_refl _, by unfold maxLen; omega, fun _ => rfl⟩
  · cases e; exact ⟨h1, h2, fun h => by cases h⟩

theorem OwnV.lift {w : World} {base base' : Nat} {v : Value} {n : Nat} {f : Nat → Int} (h : OwnV w base v n f) (hb : base' ≤ base) : OwnV w base' v n f := by
  refine ⟨h.1, ?_⟩
  rcases h.2 with h' | ⟨g, cap, cur, hv, hg, hrest⟩
  · exact .inl h'
  · exact .inr ⟨g, cap, cur, hv, Nat.le_trans hb hg, hrest⟩

/-- Two rows, one behind the other. -/
def catF (n : Nat) (f g : Nat → Int) (i : Nat) : Int := if i < n then f i else g (i - n)

theorem range_cat (n m : Nat) (f g : Nat → Int) : (List.range n).map (fun j => Value.int .i64 (f j)) ++ (List.range m).map (fun j => Value.int .i64 (g j)) = (List.range (n + m)).map fun j => Value.int .i64 (catF n f g j) := by
  apply List.ext_getElem?
  intro i
  rcases Nat.lt_or_ge i n with h | h
  · rw [List.getElem?_append_left (by simpa using h), List.getElem?_map, List.getElem?_range h, List.getElem?_map, List.getElem?_range (by omega)]
    simp [catF, h]
  · rw [List.getElem?_append_right (by simpa using h), List.getElem?_map, List.getElem?_map, List.length_map, List.length_range]
    rcases Nat.lt_or_ge (i - n) m with h2 | h2
    · rw [List.getElem?_range h2, List.getElem?_range (by omega)]
      simp [catF, show ¬ i < n by omega]
    · rw [List.getElem?_eq_none (by simpa using h2), List.getElem?_eq_none (by simp; omega)]
      rfl

/-- 'append(l, x...)': l an own row, x a slice that is not empty. -/
theorem wpList_append_all {w : World} {ops : Array Oper} {rest : List Oper} {o : Oper} {a : Act} {Q : Exit → Act → World → Prop} (hgd : o.guard = none) (s x : Operand)
    (ho : o.op = .call { callee := .builtin .append, args := #[s, x], argTypes := #[22, 22] })
    (base : Nat) (v : Value) (n : Nat) (f : Nat → Int) (hs : a.eval s = v) (hT : OwnV w base v n f) (A : Option Addr) (m c : Nat) (g : Nat → Int) (hx : a.eval x = .slice A m c) (hm : 0 < m)
    (hV : Vec w A m g) (hn : (n + m) * 8 ≤ 140737488355328) (hbase : base ≤ w.heap.size)
    (h : ∀ B d w', OwnV w' base (.slice B (n + m) d) (n + m) (catF n f g) → Below base w w' → w.grownBy w' v.ownBlock → wpList Tryd.prog ops Q rest (a.put o.dst (.slice B (n + m) d)) w') :
    wpList Tryd.prog ops Q (o :: rest) a w := by
  obtain ⟨i0, hi0, hz0, hz1, hz2⟩ := info_parts infoIntV
  obtain ⟨ad, rfl, -, -⟩ := hV 0 hm
  refine wpList_append_own w hgd s x 22 ho base 3 i0 _ 1 8 Tryd.underlying22 hi0 hz0 hz1 hz2 rfl (by decide) v n _ hs hT ad m c ((List.range m).map fun j => .int .i64 (g j)) hx (by simp) (fun j u hu => ?_) (by simp [Value.oneCell']) (by unfold maxLen; omega) (by omega) hbase ?_
  · rw [List.getElem?_map] at hu
    have hj : j < m := by
      rcases Nat.lt_or_ge j m with h | h
      · exact h
      · rw [List.getElem?_eq_none (by simpa using h)] at hu; cases hu
    obtain ⟨ad', e, -, hc⟩ := hV j hj
    simp only [Option.some.injEq] at e
    subst e
    rw [List.getElem?_range hj] at hu
    simp at hu
    rw [hc, hu]
  · intro v' w' h1 h2 h3
    rw [range_cat] at h1
    have h1' : OwnV w' base v' (n + m) (catF n f g) := h1
    obtain ⟨B, d, rfl, -⟩ := h1'.parts
    refine h B d w' h1' ⟨h2.os, h2.tape, h2.output, h2.size, fun k hk => h2.block k (by omega) fun e => ?_⟩ h2
    rcases hT.form with ⟨_, rfl⟩ | ⟨g', c', rfl, hb, _⟩
    · cases e
    · have e' : k = g' := by simpa [Value.ownBlock] using e
      omega

/-- 'append([]int{}, x...)', x not empty. -/
theorem wpList_copy_all {w : World} {ops : Array Oper} {rest : List Oper} {o : Oper} {a : Act} {Q : Exit → Act → World → Prop} (hgd : o.guard = none) (s x : Operand)
    (ho : o.op = .call { callee := .builtin .append, args := #[s, x], argTypes := #[22, 22] })
    (base : Nat) (v : Value) (hs : a.eval s = v) (hT : OwnV w base v 0 (fun _ => 0)) (A : Option Addr) (m c : Nat) (g : Nat → Int) (hx : a.eval x = .slice A m c) (hm : 0 < m)
    (hV : Vec w A m g) (hn : m * 8 ≤ 140737488355328) (hbase : base ≤ w.heap.size)
    (h : ∀ B d w', OwnV w' base (.slice B m d) m g → Below base w w' → w.grownBy w' v.ownBlock → wpList Tryd.prog ops Q rest (a.put o.dst (.slice B m d)) w') :
    wpList Tryd.prog ops Q (o :: rest) a w := by
  refine wpList_append_all hgd s x ho base v 0 (fun _ => 0) hs hT A m c g hx hm hV (by omega) hbase ?_
  rw [Nat.zero_add]
  intro B d w' h1 h2 h3
  exact h B d w' (h1.congr fun i hi => by simp [catF]) h2 h3

/-- '[]int{}': a row of its own that holds nothing. -/
theorem OwnV.empty (w : World) (base : Nat) (hb : base ≤ w.heap.size) (f : Nat → Int) : OwnV (w.alloc (.cells #[] 3)) base (.slice (some ⟨w.heap.size, 0, none⟩) 0 0) 0 f :=
  ⟨by simp, .inr ⟨w.heap.size, 0, #[], rfl, hb, heap_alloc_new w _, Nat.le_refl _, Nat.zero_le _, rfl, by simp⟩⟩

end Go.Proofs.YtfdldjlaedfllaaDoor

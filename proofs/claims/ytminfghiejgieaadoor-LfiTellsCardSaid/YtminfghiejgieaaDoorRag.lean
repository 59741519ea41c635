/- A slice of slices that the call itself makes by appends, each row of its own length. -/
import Derived.Test.YtminfghiejgieaaDoorOwnV
import Derived.Test.YtminfghiejgieaaDoorTab
import Derived.Maps.AppendAt
namespace Go.Proofs.YtminfghiejgieaaDoor
open Go.RowKit
set_option linter.unusedVariables false

/-- v has i rows, row r of L r numbers, f r of the index. -/
def Rag (w : World) (base : Nat) (v : Value) (i : Nat) (L : Nat → Nat) (f : Nat → Nat → Int) : Prop :=
  ∃ V : Nat → Value, w.ownsRow base 24 1 v i ((List.range i).map V) ∧ ∀ r, r < i → OwnV w base (V r) (L r) (f r)

section
variable {w w' : World} {base base' : Nat} {v : Value} {i : Nat} {L : Nat → Nat} {f : Nat → Nat → Int}
theorem OwnV.lift {n : Nat} {f : Nat → Int} (h : OwnV w base v n f) (hb : base' ≤ base) : OwnV w base' v n f := by
  refine ⟨h.1, ?_⟩
  rcases h.2 with h' | ⟨q, cap, cur, hv, hg, hrest⟩
  · exact .inl h'
  · exact .inr ⟨q, cap, cur, hv, Nat.le_trans hb hg, hrest⟩
theorem Rag.nil (w : World) (base : Nat) (L : Nat → Nat) (f : Nat → Nat → Int) : Rag w base (.slice none 0 0) 0 L f := ⟨fun _ => .slice none 0 0, World.ownsRow_nil _ _ _ _, fun r hr => absurd hr (by omega)⟩
theorem Rag.same (h : Rag w base v i L f) (hs : ∀ b, base ≤ b → b < w.heap.size → w'.heap[b]? = w.heap[b]?) : Rag w' base v i L f := by
  obtain ⟨V, h1, h2⟩ := h
  exact ⟨V, ownsRow_same h1 hs, fun r hr => (h2 r hr).same hs⟩
theorem Rag.below (h : Rag w base v i L f) (hb : Below w.heap.size w w') : Rag w' base v i L f := h.same fun b _ hlt => hb.block b hlt
theorem Rag.alloc (h : Rag w base v i L f) (o : Obj) : Rag (w.alloc o) base v i L f := h.below ((Below.refl _ _).alloc (Nat.le_refl _) o)
theorem Rag.drewN (h : Rag w base v i L f) (k : Nat) : Rag (w.drewN k) base v i L f := h
theorem Rag.lift (h : Rag w base v i L f) (hb : base' ≤ base) : Rag w base' v i L f := by
  obtain ⟨V, ⟨h0, h1⟩, h2⟩ := h
  refine ⟨V, ⟨h0, ?_⟩, fun r hr => (h2 r hr).lift hb⟩
  rcases h1 with h' | ⟨q, cap, cur, hv, hg, hrest⟩
  · exact .inl h'
  · exact .inr ⟨q, cap, cur, hv, Nat.le_trans hb hg, hrest⟩
/-- As a table to be read. -/
theorem Rag.mat (h : Rag w base v i L f) : ∃ A c, v = .slice A i c ∧ Mat w A i L f := by
  obtain ⟨V, h1, h2⟩ := h
  rcases h1.2 with ⟨hv, h0⟩ | ⟨g, cap, cur, hv, hb, hg, hnc, hcm, hcs, htake⟩
  · subst h0
    exact ⟨none, 0, hv, fun r hr => absurd hr (by omega)⟩
  · refine ⟨some ⟨g, 0, none⟩, cap, hv, fun r hr => ?_⟩
    obtain ⟨A, c, e, hvec⟩ := (h2 r hr).vec
    refine ⟨_, A, c, rfl, (Array.getElem?_eq_some_iff.1 hg).1, ?_, hvec⟩
    rw [Addr.add_lit, Nat.zero_add, ← e]
    have e2 : (cur.toList.take (i * 1))[r]? = ((List.range i).map V)[r]? := by rw [htake]
    rw [List.getElem?_take, if_pos (by omega)] at e2
    have e3 : cur[r]? = some (V r) := by simpa [hr] using e2
    simp [World.cell?, hg, e3]
/-- It lies in a block of its own, not nil. -/
theorem Rag.form (h1 : 1 ≤ i) (h : Rag w base v i L f) : ∃ g c, v = .slice (some ⟨g, 0, none⟩) i c ∧ base ≤ g ∧ g < w.heap.size := by
  obtain ⟨V, h2, -⟩ := h
  rcases h2.2 with ⟨hv, h0⟩ | ⟨g, cap, cur, hv, hb, hg, hnc, hcm, hcs, htake⟩
  · omega
  · exact ⟨g, cap, hv, hb, (Array.getElem?_eq_some_iff.1 hg).1⟩
end

/-- An append of one row. -/
theorem wpList_append_rag {w : World} {ops : Array Oper} {rest : List Oper} {o : Oper} {a : Act} {Q : Exit → Act → World → Prop} (hgd : o.guard = none) (s x : Operand)
    (ho : o.op = .call { callee := .builtin .append, args := #[s, x], argTypes := #[34, 34] })
    (base : Nat) (v : Value) (i : Nat) (L : Nat → Nat) (f : Nat → Nat → Int) (hs : a.eval s = v) (hT : Rag w base v i L f)
    (u : Value) (hrow : OwnV w base u (L i) (f i)) (ad : Addr) (hx : a.eval x = .slice (some ad) 1 1)
    (hnew : ∀ j u', [u][j]? = some u' → w.cell? (ad.add j) = some u') (hi : i ≤ 1000000000000) (hbase : base ≤ w.heap.size)
    (h : ∀ v' w', Rag w' base v' (i + 1) L f → Below base w w' → wpList Tryd.prog ops Q rest (a.put o.dst v') w') :
    wpList Tryd.prog ops Q (o :: rest) a w := by
  obtain ⟨V, hown, hr⟩ := hT
  obtain ⟨i0, hi0, hz0, hz1, hz2⟩ := info_parts infoRow
  have hu1 : u.oneCell' = true := by
    rcases hrow.form with ⟨-, rfl⟩ | ⟨g, c, rfl, -⟩ <;> simp [Value.oneCell']
  refine wpList_append_own_at w hgd s x 34 ho base 24 i0 _ 1 24 Tryd.underlying34 hi0 hz0 hz1 hz2 rfl (by decide) v i _ hs hown ad 1 1 [u] hx rfl hnew (by simpa using hu1) (by unfold maxLen; omega) (by omega) hbase ?_
  intro v' w' ho1 hg1 _ _
  have hkeep : ∀ {z : Value} {n : Nat} {F : Nat → Int}, OwnV w base z n F → OwnV w' base z n F := by
    intro z n F hz
    refine ⟨hz.1, ?_⟩
    rcases hz.2 with h' | ⟨g, cap, cur, hv, hb, hg, hrest⟩
    · exact .inl h'
    · refine .inr ⟨g, cap, cur, hv, hb, ?_, hrest⟩
      rw [hg1.block g (Array.getElem?_eq_some_iff.1 hg).1 fun e => ?_]
      · exact hg
      · rcases hown.2 with ⟨hv2, _⟩ | ⟨g2, cap2, cur2, hv2, hb2, hg2, _⟩
        · rw [hv2] at e; cases e
        · rw [hv2] at e
          have e' : g = g2 := by simpa [Value.ownBlock] using e
          subst e'
          rw [hg] at hg2
          simp at hg2
  refine h v' w' ⟨fun r => if r = i then u else V r, ?_, fun r hlt => ?_⟩ ?_
  · rw [List.range_succ, List.map_append]
    have e1 : (List.range i).map (fun r => if r = i then u else V r) = (List.range i).map V := by
      apply List.map_congr_left
      intro j hj
      have := List.mem_range.1 hj
      rw [if_neg (by omega)]
    rw [e1]
    simpa using ho1
  · by_cases hri : r = i
    · subst hri
      simp only [if_true]
      exact hkeep hrow
    · simp only [if_neg hri]
      exact hkeep (hr r (by omega))
  · refine ⟨hg1.os, hg1.tape, hg1.output, hg1.size, fun k hk => hg1.block k (by omega) fun e => ?_⟩
    rcases hown.2 with ⟨hv, _⟩ | ⟨g, cap, cur, hv, hb, hg, hrest⟩
    · rw [hv] at e; cases e
    · rw [hv] at e
      have e' : k = g := by simpa [Value.ownBlock] using e
      omega

end Go.Proofs.YtminfghiejgieaaDoor

/- Two rows, or two ragged tables, that grow side by side. -/
import Derived.Test.YtminfghiejgieaaDoorRag
namespace Go.Proofs.YtminfghiejgieaaDoor
open Go.RowKit
set_option linter.unusedVariables false

/-- They lie in blocks of their own. -/
def Sep (v u : Value) : Prop := ∀ b, v.ownBlock = some b → u.ownBlock ≠ some b

theorem Sep.nil_left (u : Value) : Sep (.slice none 0 0) u := fun b h => by cases h
theorem Sep.nil_right (v : Value) : Sep v (.slice none 0 0) := fun b _ h => by cases h
theorem Sep.symm {v u : Value} (h : Sep v u) : Sep u v := fun b h1 h2 => h b h2 h1
/-- The first has grown: into the block that it had, or a new one. -/
theorem Sep.grow {w : World} {v v' u : Value} (h : Sep v u) (hv : v'.ownBlock = v.ownBlock ∨ v'.ownBlock = some w.heap.size) (hu : ∀ b, u.ownBlock = some b → b < w.heap.size) : Sep v' u := fun b h1 h2 => by
  rcases hv with e | e
  · exact h b (e ▸ h1) h2
  · have := hu b h2
    rw [e] at h1
    injection h1 with h1
    omega

theorem ownsRow_lt {w : World} {base size n : Nat} {t : TypeId} {v : Value} {xs : List Value} (h : w.ownsRow base t size v n xs) : ∀ b, v.ownBlock = some b → b < w.heap.size := fun b e => by
  rcases h.2 with ⟨hv, _⟩ | ⟨g, cap, cur, hv, hb, hg, _⟩
  · rw [hv] at e; cases e
  · rw [hv] at e
    have e' : g = b := by simpa [Value.ownBlock] using e
    subst e'
    exact (Array.getElem?_eq_some_iff.1 hg).1
theorem ownsRow_grown {w w' : World} {base size n : Nat} {t : TypeId} {v u : Value} {xs : List Value} (h : w.ownsRow base t size v n xs) (hg : w.grownBy w' u.ownBlock) (hs : Sep u v) : w'.ownsRow base t size v n xs := by
  refine ⟨h.1, ?_⟩
  rcases h.2 with h' | ⟨g, cap, cur, hv, hb, hgb, hrest⟩
  · exact .inl h'
  · refine .inr ⟨g, cap, cur, hv, hb, ?_, hrest⟩
    rw [hg.block g (Array.getElem?_eq_some_iff.1 hgb).1 fun e => ?_]
    · exact hgb
    · exact hs g e.symm (by rw [hv]; rfl)
/-- A row of another type is not touched. -/
theorem ownsRow_other {w w' : World} {base base' size size' n n' : Nat} {t t' : TypeId} {v u : Value} {xs ys : List Value} (h : w.ownsRow base t size v n xs) (k : w.ownsRow base' t' size' u n' ys) (ht : t ≠ t') (hg : w.grownBy w' u.ownBlock) : w'.ownsRow base t size v n xs := by
  refine ownsRow_grown h hg fun b e1 e2 => ?_
  rcases h.2 with ⟨hv, _⟩ | ⟨g, cap, cur, hv, hb, hgb, hrest⟩
  · rw [hv] at e2; cases e2
  · rcases k.2 with ⟨hu, _⟩ | ⟨g2, cap2, cur2, hu, hb2, hgb2, hrest2⟩
    · rw [hu] at e1; cases e1
    · rw [hv] at e2
      rw [hu] at e1
      have a1 : g = b := by simpa [Value.ownBlock] using e2
      have a2 : g2 = b := by simpa [Value.ownBlock] using e1
      subst a1
      subst a2
      rw [hgb] at hgb2
      simp at hgb2
      exact ht hgb2.2

section
variable {w w' : World} {base base' n m i j : Nat} {v u : Value} {f g : Nat → Int} {L M : Nat → Nat} {F G : Nat → Nat → Int}
theorem OwnV.grown (h : OwnV w base v n f) (hg : w.grownBy w' u.ownBlock) (hs : Sep u v) : OwnV w' base v n f := ownsRow_grown h hg hs
/-- A table whose neighbour has grown. -/
theorem Rag.grown (h : Rag w base v i L F) (k : Rag w base' u j M G) (hg : w.grownBy w' u.ownBlock) (hs : Sep u v) : Rag w' base v i L F := by
  obtain ⟨V, h1, h2⟩ := h
  obtain ⟨U, k1, -⟩ := k
  exact ⟨V, ownsRow_grown h1 hg hs, fun r hr => ownsRow_other (h2 r hr) k1 (by decide) hg⟩
theorem Rag.lt (h : Rag w base v i L F) : ∀ b, v.ownBlock = some b → b < w.heap.size := by
  obtain ⟨V, h1, -⟩ := h
  exact ownsRow_lt h1
end

/-- An append of one row; what grew is told. -/
theorem wpList_append_rag_g {w : World} {ops : Array Oper} {rest : List Oper} {o : Oper} {a : Act} {Q : Exit → Act → World → Prop} (hgd : o.guard = none) (s x : Operand)
    (ho : o.op = .call { callee := .builtin .append, args := #[s, x], argTypes := #[34, 34] })
    (base : Nat) (v : Value) (i : Nat) (L : Nat → Nat) (f : Nat → Nat → Int) (hs : a.eval s = v) (hT : Rag w base v i L f)
    (u : Value) (hrow : OwnV w base u (L i) (f i)) (ad : Addr) (hx : a.eval x = .slice (some ad) 1 1)
    (hnew : ∀ j u', [u][j]? = some u' → w.cell? (ad.add j) = some u') (hi : i ≤ 1000000000000) (hbase : base ≤ w.heap.size)
    (h : ∀ v' w', Rag w' base v' (i + 1) L f → Below base w w' → w.grownBy w' v.ownBlock → (v'.ownBlock = v.ownBlock ∨ v'.ownBlock = some w.heap.size) → wpList Tryd.prog ops Q rest (a.put o.dst v') w') :
    wpList Tryd.prog ops Q (o :: rest) a w := by
  obtain ⟨V, hown, hr⟩ := hT
  obtain ⟨i0, hi0, hz0, hz1, hz2⟩ := info_parts infoRow
  have hu1 : u.oneCell' = true := by
    rcases hrow.form with ⟨-, rfl⟩ | ⟨g, c, rfl, -⟩ <;> simp [Value.oneCell']
  refine wpList_append_own_at w hgd s x 34 ho base 24 i0 _ 1 24 Tryd.underlying34 hi0 hz0 hz1 hz2 rfl (by decide) v i _ hs hown ad 1 1 [u] hx rfl hnew (by simpa using hu1) (by unfold maxLen; omega) (by omega) hbase ?_
  intro v' w' ho1 hg1 _ hb1
  have hkeep : ∀ {z : Value} {n : Nat} {F : Nat → Int}, OwnV w base z n F → OwnV w' base z n F := fun hz => ownsRow_other hz hown (by decide) hg1
  refine h v' w' ⟨fun r => if r = i then u else V r, ?_, fun r hlt => ?_⟩ ?_ hg1 hb1
  · rw [List.range_succ, List.map_append]
    have e1 : (List.range i).map (fun r => if r = i then u else V r) = (List.range i).map V := by
      apply List.map_congr_left
      intro j hj
      have := List.mem_range.1 hj
      rw [if_neg (by omega)]
    rw [e1]
    simpa using ho1
  · by_cases hri : r = i
    · subst hri
      simp only [if_true]
      exact hkeep hrow
    · simp only [if_neg hri]
      exact hkeep (hr r (by omega))
  · refine ⟨hg1.os, hg1.tape, hg1.output, hg1.size, fun k hk => hg1.block k (by omega) fun e => ?_⟩
    rcases hown.2 with ⟨hv, _⟩ | ⟨g, cap, cur, hv, hb, hg, hrest⟩
    · rw [hv] at e; cases e
    · rw [hv] at e
      have e' : k = g := by simpa [Value.ownBlock] using e
      omega

end Go.Proofs.YtminfghiejgieaaDoor

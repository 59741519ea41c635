/- A table of the call's own, row by row. -/
import Derived.Test.YtminfghiejgieaaDoorMatCheck
import Derived.Test.YtminfghiejgieaaDoorRepeat
namespace Go.Proofs.YtminfghiejgieaaDoor
open Go.RowKit
set_option linter.unusedVariables false

theorem infoRow : (Tryd.prog.info? 24).map (fun i => (i.zero, i.size, i.bytes)) = some (some (.slice none 0 0), 1, 24) := by kernel_rfl

/-- Rows 0 to i, n numbers each, every row a block of its own from base on. -/
def Tab (w : World) (base : Nat) (v : Value) (i n : Nat) (f : Nat → Nat → Int) : Prop :=
  ∃ B C : Nat → Nat, w.ownsRow base 24 1 v i ((List.range i).map fun r => .slice (some ⟨B r, 0, none⟩) n (C r)) ∧
    (∀ r, r < i → base ≤ B r ∧ RowP w (B r) 3 n (fun j => .int .i64 (f r j))) ∧ ∀ r s, r < i → s < i → B r = B s → r = s

theorem Tab.nil (w : World) (base n : Nat) (f : Nat → Nat → Int) : Tab w base (.slice none 0 0) 0 n f :=
  ⟨fun r => r, fun r => r, World.ownsRow_nil _ _ _ _, fun r hr => absurd hr (by omega), fun r s hr => absurd hr (by omega)⟩

theorem ownsRow_same {w w' : World} {base : Nat} {t : TypeId} {size : Nat} {v : Value} {n : Nat} {xs : List Value} (h : w.ownsRow base t size v n xs)
    (hs : ∀ b, base ≤ b → b < w.heap.size → w'.heap[b]? = w.heap[b]?) : w'.ownsRow base t size v n xs := by
  refine ⟨h.1, ?_⟩
  rcases h.2 with h' | ⟨g, cap, cur, hv, hb, hg, hr⟩
  · exact .inl h'
  · have hlt : g < w.heap.size := (Array.getElem?_eq_some_iff.1 hg).1
    exact .inr ⟨g, cap, cur, hv, hb, (hs g hb hlt).trans hg, hr⟩

theorem Tab.same {w w' : World} {base : Nat} {v : Value} {i n : Nat} {f : Nat → Nat → Int} (h : Tab w base v i n f)
    (hs : ∀ b, base ≤ b → b < w.heap.size → w'.heap[b]? = w.heap[b]?) : Tab w' base v i n f := by
  obtain ⟨B, C, ho, hr, hi⟩ := h
  exact ⟨B, C, ownsRow_same ho hs, fun r hlt => ⟨(hr r hlt).1, (hr r hlt).2.of_block (hs _ (hr r hlt).1 (hr r hlt).2.lt)⟩, hi⟩

theorem Tab.below {w w' : World} {base : Nat} {v : Value} {i n : Nat} {f : Nat → Nat → Int} (h : Tab w base v i n f) (hb : Below w.heap.size w w') : Tab w' base v i n f :=
  h.same fun b _ hlt => hb.block b hlt

theorem Tab.mat {w : World} {base : Nat} {v : Value} {n : Nat} {f : Nat → Nat → Int} (h1 : 1 ≤ n) (h : Tab w base v n n f) :
    ∃ g c, v = .slice (some ⟨g, 0, none⟩) n c ∧ Mat w (some ⟨g, 0, none⟩) n (fun _ => n) f := by
  obtain ⟨B, C, ho, hr, hi⟩ := h
  obtain ⟨g, c, rfl, hgb, hgl, hcell⟩ := ownsRow_cell h1 ho
  refine ⟨g, c, rfl, fun i hi => ⟨⟨g, 0, none⟩, some ⟨B i, 0, none⟩, C i, rfl, hgl, ?_, fun j hj => ⟨⟨B i, 0, none⟩, rfl, (hr i hi).2.lt, ?_⟩⟩⟩
  · rw [Addr.add_lit, Nat.zero_add]; exact hcell i hi
  · rw [Addr.add_lit, Nat.zero_add]; exact (hr i hi).2.cell hj

/-- An append of one row that is a block of its own. -/
theorem wpList_append_tab {w : World} {ops : Array Oper} {rest : List Oper} {o : Oper} {a : Act} {Q : Exit → Act → World → Prop} (hgd : o.guard = none) (s x : Operand)
    (ho : o.op = .call { callee := .builtin .append, args := #[s, x], argTypes := #[34, 34] })
    (w0 : World) (base : Nat) (v : Value) (i n : Nat) (f : Nat → Nat → Int) (hs : a.eval s = v) (hT : Tab w0 base v i n f) (hb0 : Below w0.heap.size w0 w)
    (b c : Nat) (hbn : w0.heap.size ≤ b) (hrow : RowP w b 3 n (fun j => .int .i64 (f i j))) (ad : Addr) (hx : a.eval x = .slice (some ad) 1 1)
    (hnew : ∀ j u, [Value.slice (some ⟨b, 0, none⟩) n c][j]? = some u → w.cell? (ad.add j) = some u) (hi : i ≤ 1000) (hbase : base ≤ w0.heap.size)
    (h : ∀ v' w', Tab w' base v' (i + 1) n f → Below base w w' → wpList Tryd.prog ops Q rest (a.put o.dst v') w') :
    wpList Tryd.prog ops Q (o :: rest) a w := by
  obtain ⟨B, C, hown, hr, hinj⟩ := hT
  obtain ⟨i0, hi0, hz0, hz1, hz2⟩ := info_parts infoRow
  have hown' := ownsRow_same hown (fun b _ hlt => hb0.block b hlt)
  have hbase' : base ≤ w.heap.size := Nat.le_trans hbase hb0.size
  refine wpList_append_own_at w hgd s x 34 ho base 24 i0 _ 1 24 Tryd.underlying34 hi0 hz0 hz1 hz2 rfl (by decide) v i _ hs hown' ad 1 1 [Value.slice (some ⟨b, 0, none⟩) n c] hx rfl hnew (by simp [Value.oneCell']) (by unfold maxLen; omega) (by omega) hbase' ?_
  intro v' w' ho1 hg1 _ _
  have hne : ∀ k t0 m F, RowP w k t0 m F → t0 = 3 → w'.heap[k]? = w.heap[k]? := by
    rintro k t0 m F hk rfl
    refine hg1.block k hk.lt fun e => ?_
    obtain ⟨cs, hcs, _⟩ := hk
    rcases hown'.2 with ⟨hv, _⟩ | ⟨g, cap, cur, hv, hb, hg, hrest⟩
    · rw [hv] at e; cases e
    · rw [hv] at e
      have e' : k = g := by simpa [Value.ownBlock] using e
      subst e'
      rw [hcs] at hg
      simp at hg
  refine h v' w' ⟨fun r => if r = i then b else B r, fun r => if r = i then c else C r, ?_, fun r hlt => ?_, fun r q hrl hq e => ?_⟩ ?_
  · rw [List.range_succ, List.map_append]
    have e1 : (List.range i).map (fun r => Value.slice (some ⟨if r = i then b else B r, 0, none⟩) n (if r = i then c else C r)) = (List.range i).map fun r => .slice (some ⟨B r, 0, none⟩) n (C r) := by
      apply List.map_congr_left
      intro j hj
      have := List.mem_range.1 hj
      rw [if_neg (by omega), if_neg (by omega)]
    rw [e1]
    simpa using ho1
  · by_cases hri : r = i
    · subst hri
      simp only [if_true]
      exact ⟨by omega, hrow.of_block (hne b _ _ _ hrow rfl)⟩
    · simp only [if_neg hri]
      obtain ⟨h1, h2⟩ := hr r (by omega)
      have h3 := h2.of_block (hb0.block _ h2.lt)
      exact ⟨h1, h3.of_block (hne _ _ _ _ h3 rfl)⟩
  · simp only at e
    by_cases hri : r = i <;> by_cases hqi : q = i
    · omega
    · rw [if_pos hri, if_neg hqi] at e
      have := (hr q (by omega)).2.lt
      omega
    · rw [if_neg hri, if_pos hqi] at e
      have := (hr r (by omega)).2.lt
      omega
    · rw [if_neg hri, if_neg hqi] at e
      exact hinj r q (by omega) (by omega) e
  · refine ⟨hg1.os, hg1.tape, hg1.output, hg1.size, fun k hk => hg1.block k (by omega) fun e => ?_⟩
    rcases hown'.2 with ⟨hv, _⟩ | ⟨g, cap, cur, hv, hb, hg, hrest⟩
    · rw [hv] at e; cases e
    · rw [hv] at e
      have e' : k = g := by simpa [Value.ownBlock] using e
      omega

end Go.Proofs.YtminfghiejgieaaDoor

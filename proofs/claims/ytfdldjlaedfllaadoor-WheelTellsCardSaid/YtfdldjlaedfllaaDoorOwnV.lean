/- A slice of ints that the call itself makes by appends, told by the index. -/
import Derived.Test.YtfdldjlaedfllaaDoorTouch
import Derived.Deep.AppendLies
import Derived.Deep.RegionLaw
namespace Go.Proofs.YtfdldjlaedfllaaDoor
open Go.RowKit

theorem infoIntV : (Tryd.prog.info? 3).map (fun i => (i.zero, i.size, i.bytes)) = some (some (.int .i64 0), 1, 8) := by kernel_rfl

theorem RowP.vec {w : World} {g n : Nat} {f : Nat → Int} (h : RowP w g 3 n fun i => .int .i64 (f i)) : Vec w (some ⟨g, 0, none⟩) n f :=
  fun j hj => ⟨_, rfl, h.lt, by rw [Addr.add_lit, Nat.zero_add]; exact h.cell hj⟩

/-- v has n numbers, f of the index; it is nil, or lies in a block of its own from base on. -/
def OwnV (w : World) (base : Nat) (v : Value) (n : Nat) (f : Nat → Int) : Prop := w.ownsRow base 3 1 v n ((List.range n).map fun j => .int .i64 (f j))

section
variable {w w' : World} {base n : Nat} {v : Value} {f f' : Nat → Int}
theorem OwnV.nil (w : World) (base : Nat) (f : Nat → Int) : OwnV w base (.slice none 0 0) 0 f := World.ownsRow_nil _ _ _ _
theorem OwnV.same (h : OwnV w base v n f) (hs : ∀ b, base ≤ b → b < w.heap.size → w'.heap[b]? = w.heap[b]?) : OwnV w' base v n f := by
  refine ⟨h.1, ?_⟩
  rcases h.2 with h' | ⟨g, cap, cur, hv, hb, hg, hr⟩
  · exact .inl h'
  · have hlt : g < w.heap.size := (Array.getElem?_eq_some_iff.1 hg).1
    exact .inr ⟨g, cap, cur, hv, hb, (hs g hb hlt).trans hg, hr⟩
theorem OwnV.below (h : OwnV w base v n f) (hb : Below w.heap.size w w') : OwnV w' base v n f := h.same fun b _ hlt => hb.block b hlt
theorem OwnV.alloc (h : OwnV w base v n f) (o : Obj) : OwnV (w.alloc o) base v n f := h.below ((Below.refl _ _).alloc (Nat.le_refl _) o)
theorem OwnV.drew (h : OwnV w base v n f) : OwnV w.drew base v n f := h
theorem OwnV.drewN (h : OwnV w base v n f) (k : Nat) : OwnV (w.drewN k) base v n f := h
theorem OwnV.congr (h : OwnV w base v n f) (e : ∀ i, i < n → f i = f' i) : OwnV w base v n f' := by
  unfold OwnV
  have : (List.range n).map (fun j => Value.int .i64 (f' j)) = (List.range n).map fun j => .int .i64 (f j) := List.map_congr_left fun j hj => by rw [e j (List.mem_range.1 hj)]
  rw [this]; exact h
/-- What it looks like: nil, or a block of its own. -/
theorem OwnV.form (h : OwnV w base v n f) : (n = 0 ∧ v = .slice none 0 0) ∨ ∃ g c, v = .slice (some ⟨g, 0, none⟩) n c ∧ base ≤ g ∧ g < w.heap.size ∧ n ≤ c ∧ RowP w g 3 n fun i => .int .i64 (f i) := by
  have h' := h
  rcases h.2 with ⟨hv, hn⟩ | ⟨g, cap, cur, hv, hb, hg, hc, _⟩
  · exact .inl ⟨hn, hv⟩
  · subst hv
    exact .inr ⟨g, cap, rfl, hb, (Array.getElem?_eq_some_iff.1 hg).1, hc, RowP.of_own h'⟩
theorem OwnV.vec (h : OwnV w base v n f) : ∃ A c, v = .slice A n c ∧ Vec w A n f := by
  rcases h.form with ⟨rfl, rfl⟩ | ⟨g, c, rfl, _, _, _, hr⟩
  · exact ⟨none, 0, rfl, fun j hj => absurd hj (by omega)⟩
  · exact ⟨_, c, rfl, hr.vec⟩
end

/-- Behind an append of the number x. -/
theorem append_int_aux {w w' : World} {base n : Nat} {v : Value} {f : Nat → Int} {x : Int} {g cap : Nat} (hbase : base ≤ w.heap.size) (hT : OwnV w base v n f)
    (h1 : w'.ownsRow base 3 1 (.slice (some ⟨g, 0, none⟩) (n + 1) cap) (n + 1) (((List.range n).map fun j => Value.int .i64 (f j)) ++ [.int .i64 x])) (h2 : w.grownBy w' v.ownBlock) :
    OwnV w' base (.slice (some ⟨g, 0, none⟩) (n + 1) cap) (n + 1) (upd f n x) ∧ Below base w w' := by
  refine ⟨?_, ?_⟩
  · unfold OwnV
    have e := map_range_succ n (fun j => Value.int .i64 (f j)) (.int .i64 x)
    rw [e] at h1
    have e2 : (List.range (n + 1)).map (upd (fun j => Value.int .i64 (f j)) n (.int .i64 x)) = (List.range (n + 1)).map fun j => .int .i64 (upd f n x j) := List.map_congr_left fun j _ => by
      unfold upd
      by_cases h : j = n
      · rw [if_pos h, if_pos h]
      · rw [if_neg h, if_neg h]
    rw [e2] at h1
    exact h1
  · refine ⟨h2.os, h2.tape, h2.output, h2.size, fun k hk => h2.block k (by omega) fun e => ?_⟩
    rcases hT.form with ⟨_, rfl⟩ | ⟨g', c', rfl, hb, _⟩
    · cases e
    · have e' : k = g' := by simpa [Value.ownBlock] using e
      omega

/-- An append of one number, in a plain region. -/
theorem wpList_append_int {w : World} {ops : Array Oper} {rest : List Oper} {o : Oper} {a : Act} {Q : Exit → Act → World → Prop} (hgd : o.guard = none) (s x : Operand)
    (ho : o.op = .call { callee := .builtin .append, args := #[s, x], argTypes := #[22, 22] })
    (base : Nat) (v : Value) (n : Nat) (f : Nat → Int) (hs : a.eval s = v) (hT : OwnV w base v n f) (z : Int) (ad : Addr) (hx : a.eval x = .slice (some ad) 1 1)
    (hnew : ∀ j u, [Value.int .i64 z][j]? = some u → w.cell? (ad.add j) = some u) (hn : n ≤ 17592186044415) (hbase : base ≤ w.heap.size)
    (h : ∀ g cap w', OwnV w' base (.slice (some ⟨g, 0, none⟩) (n + 1) cap) (n + 1) (upd f n z) → Below base w w' → w.grownBy w' v.ownBlock → (v.ownBlock = some g ∨ g = w.heap.size) → wpList Tryd.prog ops Q rest (a.put o.dst (.slice (some ⟨g, 0, none⟩) (n + 1) cap)) w') :
    wpList Tryd.prog ops Q (o :: rest) a w := by
  obtain ⟨i0, hi0, hz0, hz1, hz2⟩ := info_parts infoIntV
  refine wpList_append_lies w hgd s x 22 ho base 3 i0 _ 1 8 Tryd.underlying22 hi0 hz0 hz1 hz2 rfl (by decide) v n _ hs hT ad 1 1 [.int .i64 z] hx rfl hnew (by simp [Value.oneCell']) (by omega) (by unfold maxLen; omega) (by omega) hbase _ rfl ?_
  intro g cap w' h1 h2 h3 _
  obtain ⟨h4, h5⟩ := append_int_aux hbase hT h1 h2
  exact h g cap w' h4 h5 h2 h3

/-- The same at a step of a region that draws its order. -/
theorem step_append_int {w : World} {ops : Array Oper} {o : Oper} {a : Act} {K : Act → World → Prop} {Q : Exit → Act → World → Prop} {E : Prop} (hgd : o.guard = none) (s x : Operand)
    (ho : o.op = .call { callee := .builtin .append, args := #[s, x], argTypes := #[22, 22] })
    (base : Nat) (v : Value) (n : Nat) (f : Nat → Int) (hs : a.eval s = v) (hT : OwnV w base v n f) (z : Int) (ad : Addr) (hx : a.eval x = .slice (some ad) 1 1)
    (hnew : ∀ j u, [Value.int .i64 z][j]? = some u → w.cell? (ad.add j) = some u) (hn : n ≤ 1000000000000) (hbase : base ≤ w.heap.size)
    (h : ∀ g cap w', OwnV w' base (.slice (some ⟨g, 0, none⟩) (n + 1) cap) (n + 1) (upd f n z) → Below base w w' → w.grownBy w' v.ownBlock → (v.ownBlock = some g ∨ g = w.heap.size) → K (a.put o.dst (.slice (some ⟨g, 0, none⟩) (n + 1) cap)) w') :
    if Region.wanted o (yielded ops a.tmps) = true then Oper.wp Tryd.prog o a w K Q else E := by
  obtain ⟨i0, hi0, hz0, hz1, hz2⟩ := info_parts infoIntV
  refine step_append_lies w hgd s x 22 ho base 3 i0 _ 1 8 Tryd.underlying22 hi0 hz0 hz1 hz2 rfl (by decide) v n _ hs hT ad 1 1 [.int .i64 z] hx rfl hnew (by simp [Value.oneCell']) (by omega) (by unfold maxLen; omega) (by omega) hbase _ rfl ?_
  intro g cap w' h1 h2 h3 _
  obtain ⟨h4, h5⟩ := append_int_aux hbase hT h1 h2
  exact h g cap w' h4 h5 h2 h3

end Go.Proofs.YtfdldjlaedfllaaDoor

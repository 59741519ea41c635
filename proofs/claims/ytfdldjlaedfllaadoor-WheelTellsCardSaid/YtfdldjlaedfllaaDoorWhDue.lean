/- The list of those that are due, while Tick collects it. -/
import Derived.Test.YtfdldjlaedfllaaDoorWhCmp
import Derived.Test.YtfdldjlaedfllaaDoorWhSet
import Derived.Test.YtfdldjlaedfllaaDoorOwnL
import Derived.Deep.AppendLies
namespace Go.Proofs.YtfdldjlaedfllaaDoor
open Go.RowKit Go.Maps
set_option linter.unusedVariables false

theorem infoDue : (Tryd.prog.info? 56).map (fun i => (i.zero, i.size, i.bytes)) = some (some (.agg #[.int .i64 0, .int .i64 0]), 2, 16) := by kernel_rfl

/-- v is a row of the call's own that holds those that are due. -/
def OwnD (w : World) (base : Nat) (v : Value) (due : Nat → Int) (l : List Nat) : Prop := w.ownsRow base 56 2 v l.length ((List.range (l.length * 2)).map (cellD due l))

section
variable {w w' : World} {base : Nat} {v : Value} {due : Nat → Int} {l : List Nat}
theorem OwnD.nil (w : World) (base : Nat) (due : Nat → Int) : OwnD w base (.slice none 0 0) due [] := World.ownsRow_nil _ _ _ _
theorem OwnD.own (h : OwnD w base v due l) : ∀ g, v.ownBlock = some g → base ≤ g ∧ g < w.heap.size := fun g hg => World.ownsRow.lt h g hg
theorem OwnD.same (h : OwnD w base v due l) (hs : ∀ g, v.ownBlock = some g → w'.heap[g]? = w.heap[g]?) : OwnD w' base v due l := by
  refine ⟨h.1, ?_⟩
  rcases h.2 with h' | ⟨g, cap, cur, hv, hb, hg, hr⟩
  · exact .inl h'
  · exact .inr ⟨g, cap, cur, hv, hb, (hs g (by rw [hv]; rfl)).trans hg, hr⟩
theorem OwnD.below (h : OwnD w base v due l) (hb : Below w.heap.size w w') : OwnD w' base v due l := h.same fun g hg => hb.block g (h.own g hg).2
theorem OwnD.alloc (h : OwnD w base v due l) (o : Obj) : OwnD (w.alloc o) base v due l := h.below ((Below.refl _ _).alloc (Nat.le_refl _) o)
theorem OwnD.cell (h : OwnD w base v due l) : ∃ A c, v = .slice A l.length c ∧ (l ≠ [] → ∃ g, A = some ⟨g, 0, none⟩ ∧ base ≤ g ∧ g < w.heap.size ∧ ∀ t, t < l.length * 2 → w.cell? ⟨g, t, none⟩ = some (cellD due l t) ∧ w.frozen? ⟨g, t, none⟩ = false) := by
  rcases h.2 with ⟨hv, hn⟩ | ⟨g, cap, cur, hv, hb, hg, hnc, hcm, hcs, htake⟩
  · exact ⟨none, 0, by rw [hv, hn], fun hne => absurd (List.eq_nil_of_length_eq_zero hn) hne⟩
  · refine ⟨_, cap, hv, fun _ => ⟨g, rfl, hb, (Array.getElem?_eq_some_iff.1 hg).1, fun t ht => ⟨?_, ?_⟩⟩⟩
    · have e2 : (cur.toList.take (l.length * 2))[t]? = ((List.range (l.length * 2)).map (cellD due l))[t]? := by rw [htake]
      rw [List.getElem?_take, if_pos ht, List.getElem?_map, List.getElem?_range ht] at e2
      have e3 : cur[t]? = some (cellD due l t) := by simpa using e2
      simp [World.cell?, hg, e3]
    · simp [World.frozen?, hg]

theorem cellD_snoc (due : Nat → Int) (l : List Nat) (i : Nat) : (List.range (l.length * 2)).map (cellD due l) ++ [.int .i64 (due i), .int .i64 (i : Int)] = (List.range ((l ++ [i]).length * 2)).map (cellD due (l ++ [i])) := by
  rw [show (l ++ [i]).length * 2 = l.length * 2 + 1 + 1 by simp; omega, List.range_succ, List.range_succ]
  simp only [List.map_append, List.map_cons, List.map_nil, List.append_assoc, List.cons_append, List.nil_append]
  congr 1
  · apply List.map_congr_left
    intro j hj
    have := List.mem_range.1 hj
    unfold cellD nth
    rw [List.getD_eq_getElem?_getD, List.getD_eq_getElem?_getD, List.getElem?_append_left (by omega)]
  · have e1 : nth (l ++ [i]) (l.length * 2 / 2) = i := by unfold nth; rw [Nat.mul_div_cancel _ (by omega)]; simp
    have e2 : nth (l ++ [i]) ((l.length * 2 + 1) / 2) = i := by rw [show (l.length * 2 + 1) / 2 = l.length * 2 / 2 by omega]; exact e1
    unfold cellD
    rw [e1, e2, if_pos (by omega), if_neg (by omega)]

/-- One more. -/
theorem wpList_append_due {ops : Array Oper} {rest : List Oper} {o : Oper} {a : Act} {Q : Exit → Act → World → Prop} (hgd : o.guard = none) (s x : Operand)
    (ho : o.op = .call { callee := .builtin .append, args := #[s, x], argTypes := #[54, 54] })
    (base : Nat) (v : Value) (due : Nat → Int) (l : List Nat) (hs : a.eval s = v) (hT : OwnD w base v due l) (i : Nat) (ad : Addr) (hx : a.eval x = .slice (some ad) 1 1)
    (hnew : ∀ j u, [Value.int .i64 (due i), .int .i64 (i : Int)][j]? = some u → w.cell? (ad.add j) = some u) (hn : l.length ≤ 1000) (hbase : base ≤ w.heap.size)
    (h : ∀ g cap w', OwnD w' base (.slice (some ⟨g, 0, none⟩) (l.length + 1) cap) due (l ++ [i]) → Below base w w' → w.grownBy w' v.ownBlock → wpList Tryd.prog ops Q rest (a.put o.dst (.slice (some ⟨g, 0, none⟩) (l.length + 1) cap)) w') :
    wpList Tryd.prog ops Q (o :: rest) a w := by
  obtain ⟨i0, hi0, hz0, hz1, hz2⟩ := info_parts infoDue
  refine wpList_append_lies w hgd s x 54 ho base 56 i0 _ 2 16 Tryd.underlying54 hi0 hz0 hz1 hz2 rfl (by decide) v l.length _ hs hT ad 1 1 [.int .i64 (due i), .int .i64 (i : Int)] hx rfl hnew (by simp [Value.oneCell']) (by omega) (by unfold maxLen; omega) (by omega) hbase _ rfl ?_
  intro g cap w' h1 h2 h3 _
  rw [cellD_snoc] at h1
  refine h g cap w' (by unfold OwnD; rw [List.length_append]; rw [List.length_append] at h1; exact h1) ⟨h2.os, h2.tape, h2.output, h2.size, fun k hk => h2.block k (by omega) fun e => ?_⟩ h2
  have := hT.own k e.symm
  omega
end

/-- The cells of a new block of two. -/
theorem cell_new2_at (w : World) (x y : Value) (t : TypeId) {s : Nat} (hs : s = w.heap.size) : ∀ j u, [x, y][j]? = some u → (w.alloc (.cells #[x, y] t)).cell? ((⟨s, 0, none⟩ : Addr).add j) = some u := by
  subst hs
  intro j u hj
  rw [Addr.add_lit, Nat.zero_add, (Blk.new w t #[x, y]).cell]
  match j, hj with
  | 0, hj => simpa using hj
  | 1, hj => simpa using hj

theorem sameKeyI (a b : Nat) : (keyI a).sameKey (keyI b) = decide (a = b) := by
  by_cases h : a = b
  · subst h; simp [WideAt.sameKey_self (isKeyI a)]
  · rw [sameKey_ne (fun e => h (keyI_inj.1 e))]; simp [h]

/-- No more than 64 ids. -/
theorem ids_le {l : List Nat} (hn : l.Nodup) (hl : ∀ i ∈ l, i < 64) : l.length ≤ 64 := by
  have hp : l.Perm ((List.range 64).filter fun i => decide (i ∈ l)) := (List.perm_ext_iff_of_nodup hn (List.nodup_range.filter _)).2 fun i => by
    rw [List.mem_filter, List.mem_range]
    simp only [decide_eq_true_eq]
    exact ⟨fun h => ⟨hl i h, h⟩, fun h => h.2⟩
  rw [hp.length_eq]
  have := List.length_filter_le (fun i => decide (i ∈ l)) (List.range 64)
  simpa using this

/-- What has been collected ahead of t. -/
structure Coll (due : Nat → Int) (y t0 t : Int) (l : List Nat) : Prop where
  nodup : l.Nodup
  mem : ∀ i, i ∈ l ↔ i < 64 ∧ 0 < due i ∧ due i ≤ y ∧ ∃ u, t0 ≤ u ∧ u < t ∧ u % 64 = due i % 64
/-- .. and of t's slot those that are no longer left. -/
structure CollIn (due : Nat → Int) (y t0 t : Int) (left : Nat → Bool) (l : List Nat) : Prop where
  nodup : l.Nodup
  mem : ∀ i, i ∈ l ↔ i < 64 ∧ 0 < due i ∧ due i ≤ y ∧ ((∃ u, t0 ≤ u ∧ u < t ∧ u % 64 = due i % 64) ∨ (due i % 64 = t % 64 ∧ left i = false))

section
variable {due : Nat → Int} {y t0 t now : Int} {l : List Nat} {left left' : Nat → Bool}
theorem Coll.len (h : Coll due y t0 t l) : l.length ≤ 64 := ids_le h.nodup fun i hi => ((h.mem i).1 hi).1
theorem CollIn.len (h : CollIn due y t0 t left l) : l.length ≤ 64 := ids_le h.nodup fun i hi => ((h.mem i).1 hi).1
theorem Coll.start (due : Nat → Int) (y t0 : Int) : Coll due y t0 t0 [] := ⟨List.nodup_nil, fun i => ⟨fun h => absurd h (by simp), fun h => by
  obtain ⟨_, _, _, u, h1, h2, _⟩ := h
  omega⟩⟩
/-- A slot is begun: all of its ids are left. -/
theorem Coll.into (h : Coll due y t0 t l) (hl : ∀ i, i < 64 → 0 < due i → due i % 64 = t % 64 → left i = true) : CollIn due y t0 t left l := ⟨h.nodup, fun i => by
  rw [h.mem i]
  constructor
  · rintro ⟨h1, h2, h3, h4⟩
    exact ⟨h1, h2, h3, .inl h4⟩
  · rintro ⟨h1, h2, h3, h4 | ⟨h4, h5⟩⟩
    · exact ⟨h1, h2, h3, h4⟩
    · rw [hl i h1 h2 h4] at h5
      cases h5⟩
/-- A slot is done. -/
theorem CollIn.done (h : CollIn due y t0 t left l) (ht : t0 ≤ t) (hl : ∀ i, i < 64 → left i = false) : Coll due y t0 (t + 1) l := ⟨h.nodup, fun i => by
  rw [h.mem i]
  constructor
  · rintro ⟨h1, h2, h3, ⟨u, h4, h5, h6⟩ | ⟨h4, h5⟩⟩
    · exact ⟨h1, h2, h3, u, h4, by omega, h6⟩
    · exact ⟨h1, h2, h3, t, ht, by omega, h4.symm⟩
  · rintro ⟨h1, h2, h3, u, h4, h5, h6⟩
    refine ⟨h1, h2, h3, ?_⟩
    by_cases e : u = t
    · subst e
      exact .inr ⟨h6.symm, hl i h1⟩
    · exact .inl ⟨u, h4, by omega, h6⟩⟩
/-- An id of the slot has come that is due. -/
theorem CollIn.add (h : CollIn due y t0 t left l) {k : Nat} (hk : k < 64) (h0 : 0 < due k) (h1 : due k ≤ y) (hs : due k % 64 = t % 64) (hl : left k = true) (ht : t - t0 < 64)
    (hl' : ∀ i, i < 64 → left' i = (left i && !(decide (i = k)))) : CollIn due y t0 t left' (l ++ [k]) := by
  have hk' : k ∉ l := fun hm => by
    obtain ⟨_, _, _, ⟨u, h4, h5, h6⟩ | ⟨_, h5⟩⟩ := (h.mem k).1 hm
    · omega
    · rw [hl] at h5; cases h5
  refine ⟨List.nodup_append.2 ⟨h.nodup, by simp, fun a ha b hb e => ?_⟩, fun i => ?_⟩
  · have : b = k := by simpa using hb
    subst this
    exact hk' (e ▸ ha)
  · rw [List.mem_append, h.mem i]
    constructor
    · rintro (⟨a1, a2, a3, a4 | ⟨a4, a5⟩⟩ | hi)
      · exact ⟨a1, a2, a3, .inl a4⟩
      · exact ⟨a1, a2, a3, .inr ⟨a4, by rw [hl' i a1, a5]; rfl⟩⟩
      · have e : i = k := by simpa using hi
        subst e
        exact ⟨hk, h0, h1, .inr ⟨hs, by rw [hl' i hk]; simp⟩⟩
    · rintro ⟨a1, a2, a3, a4 | ⟨a4, a5⟩⟩
      · exact .inl ⟨a1, a2, a3, .inl a4⟩
      · by_cases e : i = k
        · exact .inr (by simp [e])
        · rw [hl' i a1] at a5
          exact .inl ⟨a1, a2, a3, .inr ⟨a4, by simpa [e] using a5⟩⟩
/-- .. that is not due yet. -/
theorem CollIn.skip (h : CollIn due y t0 t left l) {k : Nat} (hk : k < 64) (h1 : y < due k) (hl' : ∀ i, i < 64 → left' i = (left i && !(decide (i = k)))) : CollIn due y t0 t left' l := ⟨h.nodup, fun i => by
  rw [h.mem i]
  constructor
  · rintro ⟨a1, a2, a3, a4 | ⟨a4, a5⟩⟩
    · exact ⟨a1, a2, a3, .inl a4⟩
    · exact ⟨a1, a2, a3, .inr ⟨a4, by rw [hl' i a1, a5]; rfl⟩⟩
  · rintro ⟨a1, a2, a3, a4 | ⟨a4, a5⟩⟩
    · exact ⟨a1, a2, a3, .inl a4⟩
    · refine ⟨a1, a2, a3, .inr ⟨a4, ?_⟩⟩
      rw [hl' i a1] at a5
      have e : i ≠ k := by rintro rfl; omega
      simpa [e] using a5⟩
/-- All slots have been seen: all that are due have been collected. -/
theorem Coll.all (h : Coll due y t0 (y + 1) l) (hT : Tm now due) (h0 : t0 = max now (y - 64 + 1)) : ∀ i, i ∈ l ↔ i < 64 ∧ 0 < due i ∧ due i ≤ y := fun i => by
  rw [h.mem i]
  constructor
  · rintro ⟨a1, a2, a3, -⟩
    exact ⟨a1, a2, a3⟩
  · rintro ⟨a1, a2, a3⟩
    refine ⟨a1, a2, a3, ?_⟩
    have := hT.due i a1
    by_cases hd : t0 ≤ due i
    · exact ⟨due i, hd, by omega, rfl⟩
    · -- the one of the last 64 ticks that has the slot
      refine ⟨y - (y - due i) % 64, ?_, ?_, ?_⟩ <;> omega
end

end Go.Proofs.YtfdldjlaedfllaaDoor

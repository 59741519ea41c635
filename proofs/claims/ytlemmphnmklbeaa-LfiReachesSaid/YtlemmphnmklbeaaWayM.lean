/- A map from pairs of nodes to slices: the slices as values. -/
import Derived.Test.YtlemmphnmklbeaaGraph
import Derived.Test.YtlemmphnmklbeaaTouch
import Derived.WideKeyEntry
import Derived.Maps.Own
import Derived.Maps.OwnOps
import Derived.Maps.OwnSet
namespace Go.Proofs.Ytlemmphnmklbeaa
open Go.RowKit Go.Maps
open Go.ChangeMaps (setBlock heap_setBlock_same heap_setBlock_other)
open Go.WideElems (Fit)
set_option linter.unusedVariables false

/-- A value reads as itself. -/
def heldE (v : Value) : Option (DataW Value × List MemPlace) := some (.held v, [])

/-- The map at block b, of at most m entries, has at each pair of nodes the value V. -/
def WayM (w : World) (b n m : Nat) (V : Nat → Nat → Value) : Prop :=
  ∃ D : DataW Value, w.ownsMap Try.prog 58 heldE b m D ∧ ∀ r k, r < n → k < n → D.atKey (pairLit r k) (.held (.slice none 0 0)) = .held (V r k)

/-- A pair as a key. -/
abbrev pairV (r k : Nat) : Value := .agg #[.int .i64 r, .int .i64 k]

theorem zeroWay (w : World) : (zeroValue 23).run Try.prog w = .ok (.slice none 0 0) w := by kernel_rfl
set_option maxRecDepth 100000 in
theorem arr_klaw : Go.WideMaps.KeyLaw Try.prog 58 := deep_law_laid arr_laid (m := 2) (by omega) arr_row arr_at arr_wide

theorem wf_node {r : Nat} (h : r < 8) : (Lit.int .i64 (r : Int)).wf = true := WalkArith.wf_i64 (by omega)
theorem keyOf_node {r k : Nat} (hr : r < 8) (hk : k < 8) : keyOf Try.prog 58 (pairV r k) = some (pairLit r k) := keyOf_pair (wf_node hr) (wf_node hk)
theorem pairLit_node {r k r' k' : Nat} (hr : r < 8) (hk : k < 8) (hr' : r' < 8) (hk' : k' < 8) (h : pairLit r k = pairLit r' k') : r = r' ∧ k = k' := by
  obtain ⟨e1, e2⟩ := pairLit_inj (wf_node hr) (wf_node hk) (wf_node hr') (wf_node hk') h
  omega

section
variable {w w' : World} {b n m : Nat} {V V' : Nat → Nat → Value}
theorem WayM.lt (h : WayM w b n m V) : b < w.heap.size := by
  obtain ⟨D, h, _⟩ := h
  exact h.lt
theorem WayM.block (h : WayM w b n m V) : ∃ es clock, w.heap[b]? = some (.map es clock) := by
  obtain ⟨D, ⟨es, clock, hb, _⟩, _⟩ := h
  exact ⟨es, clock, hb⟩
theorem WayM.mono {m' : Nat} (h : WayM w b n m V) (hm : m ≤ m') : WayM w b n m' V := by
  obtain ⟨D, h, k⟩ := h
  exact ⟨D, h.mono hm, k⟩
theorem WayM.of_block (h : WayM w b n m V) (e : w'.heap[b]? = w.heap[b]?) : WayM w' b n m V := by
  obtain ⟨D, ⟨es, clock, hb, F, hs, hD⟩, k⟩ := h
  exact ⟨D, ⟨es, clock, e.trans hb, F, hs, hD⟩, k⟩
theorem WayM.congr (h : WayM w b n m V) (e : ∀ r k, r < n → k < n → V r k = V' r k) : WayM w b n m V' := by
  obtain ⟨D, h, k⟩ := h
  exact ⟨D, h, fun r q hr hq => (k r q hr hq).trans (by rw [e r q hr hq])⟩
theorem WayM.made (w : World) (n : Nat) : WayM (w.alloc (.map #[] 0)) w.heap.size n 0 (fun _ _ => .slice none 0 0) :=
  ⟨.map [], World.ownsMap_made _ _ _ _, fun r k _ _ => rfl⟩

theorem WayM.look (h : WayM w b n m V) (h8 : n ≤ 8) {r k : Nat} (hr : r < n) (hk : k < n) : (Instr.lookup 50 (.map (some b)) (pairV r k) false).run Try.prog w = .ok (V r k) w := by
  obtain ⟨D, hown, hat⟩ := h
  obtain ⟨v, ps, hrun, hv⟩ := hown.lookup arr_law Try.underlying50 (zeroWay w) (zd := .held (.slice none 0 0)) (zp := []) rfl (keyOf_node (show r < 8 by omega) (show k < 8 by omega))
  rw [hat r k hr hk] at hv
  have : v = V r k := by
    simp only [heldE, Option.some.injEq, Prod.mk.injEq, DataW.held.injEq] at hv
    exact hv.1
  rw [← this]
  exact hrun

/-- The value at a pair of nodes is another one. -/
def setV (V : Nat → Nat → Value) (r k : Nat) (v : Value) : Nat → Nat → Value := fun p q => if p = r ∧ q = k then v else V p q

theorem put_at {D : DataW Value} {r k : Nat} {v : Value} (hm : IsMap D) (h8 : n ≤ 8) (hr : r < n) (hk : k < n) (h : ∀ p q, p < n → q < n → D.atKey (pairLit p q) (.held (.slice none 0 0)) = .held (V p q)) :
    ∀ p q, p < n → q < n → (D.put (pairLit r k) (.held v)).atKey (pairLit p q) (.held (.slice none 0 0)) = .held (setV V r k v p q) := fun p q hp hq => by
  unfold setV
  by_cases e : p = r ∧ q = k
  · obtain ⟨rfl, rfl⟩ := e
    rw [if_pos ⟨rfl, rfl⟩, atKey_put_same hm (arr_law.key (keyOf_node (show p < 8 by omega) (show q < 8 by omega)))]
  · rw [if_neg e, atKey_put_other, h p q hp hq]
    intro e'
    obtain ⟨e1, e2⟩ := pairLit_node (show p < 8 by omega) (show q < 8 by omega) (show r < 8 by omega) (show k < 8 by omega) e'
    exact e ⟨e1, e2⟩

/-- A store. -/
theorem WayM.update (h : WayM w b n m V) (h8 : n ≤ 8) {r k : Nat} (hr : r < n) (hk : k < n) (hm : m < maxLen) (v : Value) :
    ∃ w', (Instr.mapUpdate 50 (.map (some b)) (pairV r k) v).run Try.prog w = .ok () w' ∧ WayM w' b n (m + 1) (setV V r k v) ∧ w.grownBy w' (some b) := by
  obtain ⟨D, hown, hat⟩ := h
  obtain ⟨w', h1, h2, h3⟩ := hown.update (val := v) (d := .held v) (ps := []) arr_law Try.underlying50 hm (keyOf_node (show r < 8 by omega) (show k < 8 by omega)) rfl
  exact ⟨w', h1, ⟨_, h2, put_at hown.isMap h8 hr hk hat⟩, h3⟩

/-- 'm[k] = f(m[k])': the entry is looked up (and laid, if there is none), and stored later. -/
theorem WayM.entry (h : WayM w b n m V) (h8 : n ≤ 8) {r k : Nat} (hr : r < n) (hk : k < n) (hm : m < maxLen) :
    ∃ st es1 clock1, (Instr.mapEntry 50 (.map (some b)) (pairV r k)).run Try.prog w = .ok (.tuple #[V r k, goInt st]) (setBlock w b (.map es1 clock1)) ∧
      ∀ (w2 : World) (v : Value), w2.heap[b]? = some (.map es1 clock1) → ∃ w3, (Instr.entryStore 50 (.map (some b)) (goInt st) v).run Try.prog w2 = .ok () w3 ∧ WayM w3 b n (m + 1) (setV V r k v) ∧ w2.grownBy w3 (some b) := by
  have h0 := h
  obtain ⟨D, hown, hat⟩ := h
  have hown0 := hown
  obtain ⟨es, clock, hb, F, hs, hD⟩ := hown
  have hkey := keyOf_node (show r < 8 by omega) (show k < 8 by omega)
  obtain ⟨v0, st, es1, clock1, hrun, hv0, hst⟩ := Go.WideElems.entry_then_store arr_klaw Try.underlying50 (fun u => zeroWay u) hb F hkey
  have hlook := h0.look h8 hr hk
  have e0 : v0 = V r k := by
    rcases Go.Maps.fit_look false arr_law Try.underlying50 (zeroWay w) hb F hkey with ⟨g1, g2, _⟩ | ⟨e0, y, g1, g2, g3, _⟩
    · rw [hlook] at g1
      have gv : V r k = .slice none 0 0 := by
        simp only [Result.ok.injEq] at g1
        simpa using g1.1
      rcases hv0 with ⟨e1, k1, k2, _⟩ | ⟨_, k2⟩
      · exact absurd k2 (g2 e1 k1)
      · rw [k2, gv]
    · rw [hlook] at g3
      have gv : V r k = e0.val := by
        simp only [Result.ok.injEq] at g3
        simpa using g3.1
      rcases hv0 with ⟨e1, k1, k2, k3⟩ | ⟨k1, _⟩
      · obtain ⟨_, _, s3⟩ := F.stamped
        have : e1 = e0 := by
          have hinj := List.pairwise_map.1 s3
          rcases List.mem_iff_getElem?.1 k1 with ⟨i, hi⟩
          rcases List.mem_iff_getElem?.1 g1 with ⟨j, hj⟩
          rcases Nat.lt_trichotomy i j with hl | hl | hl
          · have := List.pairwise_iff_getElem.1 hinj i j (List.getElem?_eq_some_iff.1 hi).1 (List.getElem?_eq_some_iff.1 hj).1 hl
            rw [(List.getElem?_eq_some_iff.1 hi).2, (List.getElem?_eq_some_iff.1 hj).2] at this
            exact absurd (k2.trans g2.symm) this
          · subst hl
            rw [hi] at hj
            exact Option.some.inj hj
          · have := List.pairwise_iff_getElem.1 hinj j i (List.getElem?_eq_some_iff.1 hj).1 (List.getElem?_eq_some_iff.1 hi).1 hl
            rw [(List.getElem?_eq_some_iff.1 hi).2, (List.getElem?_eq_some_iff.1 hj).2] at this
            exact absurd (g2.trans k2.symm) this
        rw [k3, gv, this]
      · exact absurd g2 (k1 e0 g1)
  subst e0
  refine ⟨st, es1, clock1, hrun, fun w2 v hw2 => ?_⟩
  obtain ⟨es', clock', h1, h2⟩ := hst w2 v hw2
  obtain ⟨w', k1, ⟨D', ⟨es2, clock2, j1, j2, j3, j4⟩, k2⟩, k3⟩ := h0.update h8 hr hk hm v
  rw [h2] at k1
  have ew : setBlock w b (.map es' clock') = w' := by
    simp only [Result.ok.injEq] at k1
    exact k1.2
  rw [← ew, heap_setBlock_same hb] at j1
  refine ⟨_, h1, ⟨D', ⟨es2, clock2, ?_, j2, j3, j4⟩, k2⟩, ⟨rfl, rfl, rfl, by simp [setBlock], fun i _ hi => heap_setBlock_other hw2 _ (fun e => hi (by rw [e]))⟩⟩
  rw [heap_setBlock_same hw2]
  exact j1
end

end Go.Proofs.Ytlemmphnmklbeaa

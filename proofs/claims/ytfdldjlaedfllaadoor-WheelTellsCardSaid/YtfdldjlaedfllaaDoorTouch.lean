/- Which blocks a call may have turned; a block whose first cells are told by their index. -/
import Derived.Test.YtfdldjlaedfllaaDoorMem
namespace Go.Proofs.YtfdldjlaedfllaaDoor
open Go.RowKit

/-- Of what was there only blocks in S have turned. -/
structure Touch (S : Nat → Prop) (w w' : World) : Prop where
  os : w'.os = w.os
  tape : w'.tape = w.tape
  output : w'.output = w.output
  size : w.heap.size ≤ w'.heap.size
  block : ∀ k, k < w.heap.size → ¬ S k → w'.heap[k]? = w.heap[k]?

section
variable {S S' : Nat → Prop} {w a b : World}
theorem Touch.refl (S : Nat → Prop) (w : World) : Touch S w w := ⟨rfl, rfl, rfl, Nat.le_refl _, fun _ _ _ => rfl⟩
theorem Touch.trans' (h : Touch S w a) (k : Touch S' a b) (hS : ∀ i, S' i → S i ∨ w.heap.size ≤ i) : Touch S w b :=
  ⟨k.os.trans h.os, k.tape.trans h.tape, k.output.trans h.output, Nat.le_trans h.size k.size, fun i hi hn =>
    (k.block i (Nat.lt_of_lt_of_le hi h.size) (fun hs => (hS i hs).elim hn (fun hge => absurd hi (Nat.not_lt.2 hge)))).trans (h.block i hi hn)⟩
theorem Touch.trans (h : Touch S w a) (k : Touch S a b) : Touch S w b := h.trans' k fun _ hs => .inl hs
theorem Touch.mono (h : Touch S w a) (hS : ∀ i, S i → S' i) : Touch S' w a := ⟨h.os, h.tape, h.output, h.size, fun i hi hn => h.block i hi fun hs => hn (hS i hs)⟩
theorem Touch.drew (h : Touch S w a) : Touch S w a.drew := ⟨h.os, h.tape, h.output, h.size, h.block⟩
theorem Touch.drewN (h : Touch S w a) (n : Nat) : Touch S w (a.drewN n) := ⟨h.os, h.tape, h.output, h.size, h.block⟩
theorem Touch.alloc (h : Touch S w a) (o : Obj) : Touch S w (a.alloc o) :=
  ⟨h.os, h.tape, h.output, Nat.le_trans h.size (by simp), fun i hi hn => (Below.heap_alloc a o i (Nat.lt_of_lt_of_le hi h.size)).trans (h.block i hi hn)⟩
theorem Touch.setCell (h : Touch S w a) {p : Addr} (hp : S p.block ∨ w.heap.size ≤ p.block) (u : Value) : Touch S w (a.setCell p u) :=
  ⟨h.os, h.tape, h.output, by simpa [World.setCell] using h.size, fun i hi hn => (Below.heap_setCell a p u i (by
    rintro rfl
    rcases hp with hp | hp
    · exact hn hp
    · omega)).trans (h.block i hi hn)⟩
theorem Touch.grown {row : Option Nat} (h : Touch S w a) (hg : a.grownBy b row) (hr : ∀ k, row = some k → S k ∨ w.heap.size ≤ k) : Touch S w b :=
  ⟨hg.os.trans h.os, hg.tape.trans h.tape, hg.output.trans h.output, Nat.le_trans h.size hg.size, fun i hi hn =>
    (hg.block i (Nat.lt_of_lt_of_le hi h.size) (fun e => by
      rcases hr i e.symm with hs | hs
      · exact hn hs
      · omega)).trans (h.block i hi hn)⟩
theorem Touch.alike (h : Touch S w a) (e1 : b.heap = a.heap) (e2 : b.os = a.os) (e3 : b.tape = a.tape) (e4 : b.output = a.output) : Touch S w b :=
  ⟨e2.trans h.os, e3.trans h.tape, e4.trans h.output, by rw [e1]; exact h.size, fun i hi hn => by rw [e1]; exact h.block i hi hn⟩
/-- The same, the first world spelled otherwise; more blocks. -/
theorem Touch.mono' (h : Touch S a b) (e1 : a.heap = w.heap) (e2 : a.os = w.os) (e3 : a.tape = w.tape) (e4 : a.output = w.output) (hS : ∀ i, S i → S' i) : Touch S' w b :=
  ⟨h.os.trans e2, h.tape.trans e3, h.output.trans e4, by rw [← e1]; exact h.size, fun i hi hn => by rw [← e1]; exact h.block i (by rw [e1]; exact hi) fun hs => hn (hS i hs)⟩
theorem Touch.of_below (h : Below w.heap.size w a) : Touch S w a := ⟨h.os, h.tape, h.output, h.size, fun i hi _ => h.block i hi⟩
theorem Touch.below {B : Nat} (h : Below B w a) (k : Touch S a b) (hB : B ≤ a.heap.size) (hS : ∀ i, S i → B ≤ i) : Below B w b :=
  h.trans ⟨k.os, k.tape, k.output, k.size, fun i hi => k.block i (by omega) fun hs => by have := hS i hs; omega⟩
theorem Blk.touch {g : Nat} {t : TypeId} {cs : Array Value} (h : Blk w g t cs) (k : Touch S w a) (hg : ¬ S g) : Blk a g t cs := (k.block g h.lt hg).trans h
end

/-- Block g is of element type t, none frozen; its first n cells are as f says. -/
def RowP (w : World) (g : Nat) (t : TypeId) (n : Nat) (f : Nat → Value) : Prop :=
  ∃ c : Array Value, w.heap[g]? = some (.cells c t (0, 0)) ∧ n ≤ c.size ∧ ∀ i, i < n → c[i]? = some (f i)

/-- f, but x at i. -/
def upd {α : Type} (f : Nat → α) (i : Nat) (x : α) : Nat → α := fun j => if j = i then x else f j
theorem upd_same {α : Type} (f : Nat → α) (i : Nat) (x : α) : upd f i x i = x := by simp [upd]
theorem upd_other {α : Type} (f : Nat → α) {i j : Nat} (x : α) (h : j ≠ i) : upd f i x j = f j := by simp [upd, h]

section
variable {w w' : World} {g : Nat} {t : TypeId} {n : Nat} {f f' : Nat → Value}
theorem RowP.lt (h : RowP w g t n f) : g < w.heap.size := by
  obtain ⟨c, hb, _⟩ := h
  exact (Array.getElem?_eq_some_iff.1 hb).1
theorem RowP.cell (h : RowP w g t n f) {i : Nat} (hi : i < n) : w.cell? ⟨g, i, none⟩ = some (f i) := by
  obtain ⟨c, hb, _, hc⟩ := h
  simp [World.cell?, hb, hc i hi]
theorem RowP.frozen (h : RowP w g t n f) (i : Nat) : w.frozen? ⟨g, i, none⟩ = false := by
  obtain ⟨c, hb, _⟩ := h
  simp [World.frozen?, hb]
theorem RowP.of_block (h : RowP w g t n f) (e : w'.heap[g]? = w.heap[g]?) : RowP w' g t n f := by
  obtain ⟨c, hb, hn, hc⟩ := h
  exact ⟨c, e.trans hb, hn, hc⟩
theorem RowP.congr (h : RowP w g t n f) (e : ∀ i, i < n → f i = f' i) : RowP w g t n f' := by
  obtain ⟨c, hb, hn, hc⟩ := h
  exact ⟨c, hb, hn, fun i hi => by rw [hc i hi, e i hi]⟩
theorem RowP.set (h : RowP w g t n f) (i : Nat) (v : Value) : RowP (w.setCell ⟨g, i, none⟩ v) g t n (upd f i v) := by
  obtain ⟨c, hb, hn, hc⟩ := h
  refine ⟨c.setIfInBounds i v, ?_, by simpa using hn, fun j hj => ?_⟩
  · simp [World.setCell, Array.getElem?_modify, hb]
  · rw [Array.getElem?_setIfInBounds]
    by_cases e : j = i
    · subst e
      have hlt : j < c.size := by omega
      simp [upd, hlt]
    · rw [if_neg (fun h => e h.symm), hc j hj, upd_other _ _ e]
theorem RowP.setOther (h : RowP w g t n f) {a : Addr} (ha : g ≠ a.block) (v : Value) : RowP (w.setCell a v) g t n f := h.of_block (Below.heap_setCell w a v g ha)
theorem RowP.alloc (h : RowP w g t n f) (o : Obj) : RowP (w.alloc o) g t n f := h.of_block (Below.heap_alloc w o g h.lt)
theorem RowP.drewN (h : RowP w g t n f) (k : Nat) : RowP (w.drewN k) g t n f := h
theorem RowP.below {B : Nat} (h : RowP w g t n f) (hb : Below B w w') (hg : g < B) : RowP w' g t n f := h.of_block (hb.block g hg)
theorem RowP.touch {S : Nat → Prop} (h : RowP w g t n f) (k : Touch S w w') (hg : ¬ S g) : RowP w' g t n f := h.of_block (k.block g h.lt hg)
theorem RowP.less {m : Nat} (h : RowP w g t n f) (hm : m ≤ n) : RowP w g t m f := by
  obtain ⟨c, hb, hn, hc⟩ := h
  exact ⟨c, hb, by omega, fun i hi => hc i (by omega)⟩
theorem RowP.new (w : World) (t : TypeId) (cs : Array Value) (f : Nat → Value) (hf : ∀ i, i < cs.size → cs[i]? = some (f i)) : RowP (w.alloc (.cells cs t)) w.heap.size t cs.size f :=
  ⟨cs, heap_alloc_new w _, Nat.le_refl _, hf⟩
theorem RowP.made (w : World) (z : Value) (n : Nat) (t : TypeId) : RowP (w.alloc (.cells (madeCells #[z] n) t)) w.heap.size t n (fun _ => z) :=
  ⟨_, heap_alloc_new w _, by rw [size_madeCells]; exact Nat.le_refl _, fun i hi => by simp [madeCells, hi, Nat.mod_one]⟩
/-- An own row, told by the index. -/
theorem RowP.of_own {base cap : Nat} (h : w.ownsRow base t 1 (.slice (some ⟨g, 0, none⟩) n cap) n ((List.range n).map f)) : RowP w g t n f := by
  rcases h.2 with ⟨h', _⟩ | ⟨g', cap', cur, h', _, hg, hnc, _, hcs, htake⟩
  · simp at h'
  · simp only [Value.slice.injEq, Option.some.injEq, Addr.mk.injEq, and_true, true_and] at h'
    obtain ⟨rfl, rfl⟩ := h'
    refine ⟨cur, hg, by omega, fun i hi => ?_⟩
    have e : (cur.toList.take (n * 1))[i]? = ((List.range n).map f)[i]? := by rw [htake]
    rw [List.getElem?_take, if_pos (by omega)] at e
    simpa [hi] using e
theorem map_range_set {α : Type} (n i : Nat) (f : Nat → α) (x : α) : ((List.range n).map f).set i x = (List.range n).map (upd f i x) := by
  apply List.ext_getElem?
  intro j
  rw [List.getElem?_set]
  by_cases hj : i = j
  · subst hj
    by_cases hl : i < n
    · simp [hl, upd]
    · simp [hl]
  · rw [if_neg hj]
    by_cases hl : j < n
    · simp [hl]
      rw [upd_other _ _ (fun h => hj h.symm)]
    · simp [hl]
theorem map_range_succ {α : Type} (n : Nat) (f : Nat → α) (x : α) : (List.range n).map f ++ [x] = (List.range (n + 1)).map (upd f n x) := by
  rw [List.range_succ, List.map_append]
  congr 1
  · apply List.map_congr_left
    intro j hj
    have := List.mem_range.1 hj
    rw [upd_other _ _ (by omega)]
  · simp [upd]
end

/-- The new one-cell block, its number spelled otherwise. -/
theorem cell_new_at (w : World) (x : Value) (t : TypeId) {s : Nat} (hs : s = w.heap.size) : ∀ j u, [x][j]? = some u → (w.alloc (.cells #[x] t)).cell? ((⟨s, 0, none⟩ : Addr).add j) = some u := by
  subst hs
  intro j u hj
  match j, hj with
  | 0, hj =>
    simp at hj
    subst hj
    simp [Addr.add]

end Go.Proofs.YtfdldjlaedfllaaDoor

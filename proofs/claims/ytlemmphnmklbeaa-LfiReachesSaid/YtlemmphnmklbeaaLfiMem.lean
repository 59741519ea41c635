/- The memory of a net that has never round: every block of it bears a label. -/
import Derived.Test.YtlemmphnmklbeaaLab
import Derived.Test.YtlemmphnmklbeaaWayM
import Derived.Test.YtlemmphnmklbeaaLfiLaw
import Derived.Test.YtlemmphnmklbeaaOwnV
namespace Go.Proofs.Ytlemmphnmklbeaa
open Go.RowKit
set_option linter.unusedVariables false

/-- Where the net lies. -/
structure LAd where
  p : Nat
  gC : Nat
  gN : Nat
  gW : Nat
  cC : Nat
  cN : Nat
  BC : Nat → Nat
  CC : Nat → Nat
  BN : Nat → Nat
  BH : Nat → Nat
  CH : Nat → Nat
  QV : Nat → Nat → Value

/-- What waits on a way: a slice, wherever it begins in its block; the block bears the way's label. -/
def QueL (w : World) (lab : Nat → List Nat) (a b : Nat) (v : Value) (l : List Int) : Prop :=
  (l = [] ∧ v = .slice none 0 0) ∨ ∃ g o cap, v = .slice (some ⟨g, o, none⟩) l.length cap ∧ lab g = [8, a, b] ∧ l.length ≤ cap ∧
    (∀ j, j < l.length → w.cell? ⟨g, o + j, none⟩ = some (.int .i64 (l.getD j 0))) ∧ ∀ j, j < cap → (w.cell? ⟨g, o + j, none⟩).isSome = true ∧ w.frozen? ⟨g, o + j, none⟩ = false

section
variable {w w' : World} {lab lab' : Nat → List Nat} {a b : Nat} {v : Value} {l : List Int}
theorem QueL.same (h : QueL w lab a b v l) (hs : ∀ g, lab g = [8, a, b] → w'.heap[g]? = w.heap[g]?) (hl : ∀ g, lab g = [8, a, b] → lab' g = [8, a, b]) : QueL w' lab' a b v l := by
  rcases h with h | ⟨g, o, cap, h1, h2, h3, h4, h5⟩
  · exact .inl h
  · exact .inr ⟨g, o, cap, h1, hl g h2, h3, fun j hj => (World.cell?_of_block (a := ⟨g, o + j, none⟩) (hs g h2)).trans (h4 j hj), fun j hj => by
      rw [World.cell?_of_block (a := ⟨g, o + j, none⟩) (hs g h2), World.frozen?_of_block (a := ⟨g, o + j, none⟩) (hs g h2)]
      exact h5 j hj⟩
theorem QueL.len (h : QueL w lab a b v l) : ∃ A c, v = .slice A l.length c := by
  rcases h with ⟨rfl, rfl⟩ | ⟨g, o, cap, rfl, _⟩
  · exact ⟨none, 0, rfl⟩
  · exact ⟨_, _, rfl⟩
theorem QueL.nil (w : World) (lab : Nat → List Nat) (a b : Nat) : QueL w lab a b (.slice none 0 0) [] := .inl ⟨rfl, rfl⟩
end

/-- The net at block A.p. -/
structure LN (w : World) (lab : Nat → List Nat) (A : LAd) (n t : Nat) (s : LS) : Prop where
  blk : Blk w A.p 53 #[.int .i64 t, .slice (some ⟨A.gC, 0, none⟩) n A.cC, .slice (some ⟨A.gN, 0, none⟩) n A.cN, .map (some A.gW)]
  cst : RowP w A.gC 23 n fun r => .slice (some ⟨A.BC r, 0, none⟩) n (A.CC r)
  cstr : ∀ r, r < n → RowP w (A.BC r) 3 n fun k => .int .i64 (s.K r k)
  nod : RowP w A.gN 54 n fun r => .pointer (some ⟨A.BN r, 0, none⟩)
  nodr : ∀ r, r < n → Blk w (A.BN r) 57 #[.int .i64 (s.f r), .int .i64 (s.e r), .slice (some ⟨A.BH r, 0, none⟩) n (A.CH r)]
  hrdr : ∀ r, r < n → RowP w (A.BH r) 3 n fun k => .int .i64 (s.h r k)
  way : WayM w A.gW n s.c A.QV
  que : ∀ r k, r < n → k < n → QueL w lab r k (A.QV r k) (s.q r k)
  lp : lab A.p = [0]
  lC : lab A.gC = [1]
  lc : ∀ r, r < n → lab (A.BC r) = [2, r]
  lN : lab A.gN = [3]
  ln : ∀ r, r < n → lab (A.BN r) = [4, r]
  lh : ∀ r, r < n → lab (A.BH r) = [5, r]
  lW : lab A.gW = [6]
  free : ∀ b, w.heap.size ≤ b → lab b = []

section
variable {w w' w'' : World} {lab lab' lab'' : Nat → List Nat} {A : LAd} {n t : Nat} {s s' : LS}
theorem LN.as (h : LN w lab A n t s) (e : s = s') : LN w lab A n t s' := e ▸ h
theorem LN.lt (h : LN w lab A n t s) {b : Nat} (hl : lab b ≠ []) : b < w.heap.size := by
  rcases Nat.lt_or_ge b w.heap.size with hlt | hge
  · exact hlt
  · exact absurd (h.free b hge) hl

theorem LN.same (h : LN w lab A n t s) (hs : ∀ b, b < w.heap.size → lab b ≠ [] → w'.heap[b]? = w.heap[b]?) (hz : w.heap.size ≤ w'.heap.size) : LN w' lab A n t s := by
  have hh : ∀ {b : Nat} {l : List Nat}, lab b = l → l ≠ [] → w'.heap[b]? = w.heap[b]? := fun e hl => hs _ (h.lt (by rw [e]; exact hl)) (by rw [e]; exact hl)
  exact ⟨(hh h.lp (by simp)).trans h.blk, h.cst.of_block (hh h.lC (by simp)), fun r hr => (h.cstr r hr).of_block (hh (h.lc r hr) (by simp)), h.nod.of_block (hh h.lN (by simp)), fun r hr => (hh (h.ln r hr) (by simp)).trans (h.nodr r hr), fun r hr => (h.hrdr r hr).of_block (hh (h.lh r hr) (by simp)), h.way.of_block (hh h.lW (by simp)), fun r k hr hk => (h.que r k hr hk).same (fun g hg => hh hg (by simp)) (fun g hg => hg), h.lp, h.lC, h.lc, h.lN, h.ln, h.lh, h.lW, fun b hb => h.free b (Nat.le_trans hz hb)⟩
theorem LN.below (h : LN w lab A n t s) (hb : Below w.heap.size w w') : LN w' lab A n t s := h.same (fun b hlt _ => hb.block b hlt) hb.size
theorem LN.drewN (h : LN w lab A n t s) (k : Nat) : LN (w.drewN k) lab A n t s := h.same (fun _ _ _ => rfl) (Nat.le_refl _)

theorem LN.netCell (h : LN w lab A n t s) : w.cell? ⟨A.p, 0, none⟩ = some (.int .i64 t) ∧ w.cell? ⟨A.p, 1, none⟩ = some (.slice (some ⟨A.gC, 0, none⟩) n A.cC) ∧ w.cell? ⟨A.p, 2, none⟩ = some (.slice (some ⟨A.gN, 0, none⟩) n A.cN) ∧ w.cell? ⟨A.p, 3, none⟩ = some (.map (some A.gW)) :=
  ⟨by simpa using h.blk.cell 0, by simpa using h.blk.cell 1, by simpa using h.blk.cell 2, by simpa using h.blk.cell 3⟩
theorem LN.nodeCell (h : LN w lab A n t s) {r : Nat} (hr : r < n) : w.cell? ⟨A.BN r, 0, none⟩ = some (.int .i64 (s.f r)) ∧ w.cell? ⟨A.BN r, 1, none⟩ = some (.int .i64 (s.e r)) ∧ w.cell? ⟨A.BN r, 2, none⟩ = some (.slice (some ⟨A.BH r, 0, none⟩) n (A.CH r)) :=
  ⟨by simpa using (h.nodr r hr).cell 0, by simpa using (h.nodr r hr).cell 1, by simpa using (h.nodr r hr).cell 2⟩

/-- One block with a label has turned: all else is as it was. -/
theorem LN.turn (h : LN w lab A n t s) {g : Nat} (hs : ∀ b, b < w.heap.size → lab b ≠ [] → b ≠ g → w'.heap[b]? = w.heap[b]?) {b : Nat} {l u : List Nat} (e : lab b = l) (hl : l ≠ []) (hg : lab g = u) (hne : l ≠ u) : w'.heap[b]? = w.heap[b]? :=
  hs b (h.lt (by rw [e]; exact hl)) (by rw [e]; exact hl) (lab_ne e hg hne)

/-- What a node thinks. -/
theorem LN.setFar (h : LN w lab A n t s) {r : Nat} (hr : r < n) (x : Int) : LN (w.setCell ⟨A.BN r, 0, none⟩ (.int .i64 x)) lab A n t { s with f := upd s.f r x } := by
  have hh : ∀ {b : Nat} {l : List Nat}, lab b = l → l ≠ [4, r] → (w.setCell ⟨A.BN r, 0, none⟩ (.int .i64 x)).heap[b]? = w.heap[b]? := fun e hl => Below.heap_setCell _ _ _ _ (lab_ne e (h.ln r hr) hl)
  refine ⟨(hh h.lp (by simp)).trans h.blk, h.cst.of_block (hh h.lC (by simp)), fun p hp => (h.cstr p hp).of_block (hh (h.lc p hp) (by simp)), h.nod.of_block (hh h.lN (by simp)), fun p hp => ?_, fun p hp => (h.hrdr p hp).of_block (hh (h.lh p hp) (by simp)), h.way.of_block (hh h.lW (by simp)), fun p k hp hk => (h.que p k hp hk).same (fun g hg => hh hg (by simp)) (fun g hg => hg), h.lp, h.lC, h.lc, h.lN, h.ln, h.lh, h.lW, fun b hb => h.free b (by rw [size_setCell] at hb; exact hb)⟩
  by_cases e : p = r
  · subst e
    show Blk _ _ _ #[.int .i64 (upd s.f p x p), _, _]
    rw [upd_same]
    exact (h.nodr p hp).set_ 0 (.int .i64 x)
  · show Blk _ _ _ #[.int .i64 (upd s.f r x p), _, _]
    rw [upd_other _ _ e]
    exact (hh (h.ln p hp) (by simpa using e)).trans (h.nodr p hp)
/-- The least that a node thought. -/
theorem LN.setLeast (h : LN w lab A n t s) {r : Nat} (hr : r < n) (x : Int) : LN (w.setCell ⟨A.BN r, 1, none⟩ (.int .i64 x)) lab A n t { s with e := upd s.e r x } := by
  have hh : ∀ {b : Nat} {l : List Nat}, lab b = l → l ≠ [4, r] → (w.setCell ⟨A.BN r, 1, none⟩ (.int .i64 x)).heap[b]? = w.heap[b]? := fun e hl => Below.heap_setCell _ _ _ _ (lab_ne e (h.ln r hr) hl)
  refine ⟨(hh h.lp (by simp)).trans h.blk, h.cst.of_block (hh h.lC (by simp)), fun p hp => (h.cstr p hp).of_block (hh (h.lc p hp) (by simp)), h.nod.of_block (hh h.lN (by simp)), fun p hp => ?_, fun p hp => (h.hrdr p hp).of_block (hh (h.lh p hp) (by simp)), h.way.of_block (hh h.lW (by simp)), fun p k hp hk => (h.que p k hp hk).same (fun g hg => hh hg (by simp)) (fun g hg => hg), h.lp, h.lC, h.lc, h.lN, h.ln, h.lh, h.lW, fun b hb => h.free b (by rw [size_setCell] at hb; exact hb)⟩
  by_cases e : p = r
  · subst e
    show Blk _ _ _ #[_, .int .i64 (upd s.e p x p), _]
    rw [upd_same]
    exact (h.nodr p hp).set_ 1 (.int .i64 x)
  · show Blk _ _ _ #[_, .int .i64 (upd s.e r x p), _]
    rw [upd_other _ _ e]
    exact (hh (h.ln p hp) (by simpa using e)).trans (h.nodr p hp)
/-- What a node heard. -/
theorem LN.setHeard (h : LN w lab A n t s) {r : Nat} (hr : r < n) (k : Nat) (x : Int) : LN (w.setCell ⟨A.BH r, k, none⟩ (.int .i64 x)) lab A n t (s.hear r k x) := by
  have hh : ∀ {b : Nat} {l : List Nat}, lab b = l → l ≠ [5, r] → (w.setCell ⟨A.BH r, k, none⟩ (.int .i64 x)).heap[b]? = w.heap[b]? := fun e hl => Below.heap_setCell _ _ _ _ (lab_ne e (h.lh r hr) hl)
  refine ⟨(hh h.lp (by simp)).trans h.blk, h.cst.of_block (hh h.lC (by simp)), fun p hp => (h.cstr p hp).of_block (hh (h.lc p hp) (by simp)), h.nod.of_block (hh h.lN (by simp)), fun p hp => (hh (h.ln p hp) (by simp)).trans (h.nodr p hp), fun p hp => ?_, h.way.of_block (hh h.lW (by simp)), fun p k hp hk => (h.que p k hp hk).same (fun g hg => hh hg (by simp)) (fun g hg => hg), h.lp, h.lC, h.lc, h.lN, h.ln, h.lh, h.lW, fun b hb => h.free b (by rw [size_setCell] at hb; exact hb)⟩
  by_cases e : p = r
  · subst e
    refine ((h.hrdr p hp).set k _).congr fun j _ => ?_
    unfold upd LS.hear
    by_cases e : j = k <;> simp [e]
  · refine ((h.hrdr p hp).of_block (hh (h.lh p hp) (by simpa using e))).congr fun j _ => ?_
    simp [LS.hear, e]
/-- What a link costs, from one of both. -/
theorem LN.setCost (h : LN w lab A n t s) {r : Nat} (hr : r < n) (k : Nat) (x : Int) : LN (w.setCell ⟨A.BC r, k, none⟩ (.int .i64 x)) lab A n t (s.dear1 r k x) := by
  have hh : ∀ {b : Nat} {l : List Nat}, lab b = l → l ≠ [2, r] → (w.setCell ⟨A.BC r, k, none⟩ (.int .i64 x)).heap[b]? = w.heap[b]? := fun e hl => Below.heap_setCell _ _ _ _ (lab_ne e (h.lc r hr) hl)
  refine ⟨(hh h.lp (by simp)).trans h.blk, h.cst.of_block (hh h.lC (by simp)), fun p hp => ?_, h.nod.of_block (hh h.lN (by simp)), fun p hp => (hh (h.ln p hp) (by simp)).trans (h.nodr p hp), fun p hp => (h.hrdr p hp).of_block (hh (h.lh p hp) (by simp)), h.way.of_block (hh h.lW (by simp)), fun p k hp hk => (h.que p k hp hk).same (fun g hg => hh hg (by simp)) (fun g hg => hg), h.lp, h.lC, h.lc, h.lN, h.ln, h.lh, h.lW, fun b hb => h.free b (by rw [size_setCell] at hb; exact hb)⟩
  by_cases e : p = r
  · subst e
    refine ((h.cstr p hp).set k _).congr fun j _ => ?_
    unfold upd LS.dear1
    by_cases e : j = k <;> simp [e]
  · refine ((h.cstr p hp).of_block (hh (h.lc p hp) (by simpa using e))).congr fun j _ => ?_
    simp [LS.dear1, e]
/-- A way's slice is another one; its block may have turned, or be a new one; so has the map. -/
theorem LN.swap (h : LN w lab A n t s) {r k : Nat} (hr : r < n) (hk : k < n) {v : Value} {l : List Int} (hs : ∀ b, b < w.heap.size → lab b ≠ [] → lab b ≠ [8, r, k] → b ≠ A.gW → w'.heap[b]? = w.heap[b]?) (hz : w.heap.size ≤ w'.heap.size)
    (hm : WayM w' A.gW n (s.c + 1) (setV A.QV r k v)) (hl : ∀ b, b < w.heap.size → lab' b = lab b) (hf : ∀ b, w'.heap.size ≤ b → lab' b = []) (hq : QueL w' lab' r k v l) :
    LN w' lab' { A with QV := setV A.QV r k v } n t (s.way r k l) := by
  have hL : ∀ {b : Nat} {l : List Nat}, lab b = l → l ≠ [] → lab' b = l := fun e hb => (hl _ (h.lt (by rw [e]; exact hb))).trans e
  have hh : ∀ {b : Nat} {l : List Nat}, lab b = l → l ≠ [] → l ≠ [8, r, k] → l ≠ [6] → w'.heap[b]? = w.heap[b]? := fun e h0 h1 h2 => hs _ (h.lt (by rw [e]; exact h0)) (by rw [e]; exact h0) (by rw [e]; exact h1) (lab_ne e h.lW h2)
  refine ⟨(hh h.lp (by simp) (by simp) (by simp)).trans h.blk, h.cst.of_block (hh h.lC (by simp) (by simp) (by simp)), fun p hp => (h.cstr p hp).of_block (hh (h.lc p hp) (by simp) (by simp) (by simp)), h.nod.of_block (hh h.lN (by simp) (by simp) (by simp)), fun p hp => (hh (h.ln p hp) (by simp) (by simp) (by simp)).trans (h.nodr p hp), fun p hp => (h.hrdr p hp).of_block (hh (h.lh p hp) (by simp) (by simp) (by simp)), hm, fun p q hp hq' => ?_, hL h.lp (by simp), hL h.lC (by simp), fun p hp => hL (h.lc p hp) (by simp), hL h.lN (by simp), fun p hp => hL (h.ln p hp) (by simp), fun p hp => hL (h.lh p hp) (by simp), hL h.lW (by simp), hf⟩
  show QueL w' lab' p q (if p = r ∧ q = k then v else A.QV p q) (if p = r ∧ q = k then l else s.q p q)
  by_cases e : p = r ∧ q = k
  · obtain ⟨rfl, rfl⟩ := e
    rw [if_pos ⟨rfl, rfl⟩, if_pos ⟨rfl, rfl⟩]
    exact hq
  · rw [if_neg e, if_neg e]
    exact (h.que p q hp hq').same (fun g hg => hh hg (by simp) (by simpa using e) (by simp)) (fun g hg => hL hg (by simp))

/-- The footprint of a store into the net. -/
theorem AF.setCell (h : AF lab w lab' w') {g : Nat} {l : List Nat} (hg : lab' g = l) (hl : l ≠ []) (i : Nat) (v : Value) : AF lab w lab' (w'.setCell ⟨g, i, none⟩ v) :=
  ⟨h.touch.setCell (by
    show lab g ≠ [] ∨ w.heap.size ≤ g
    rcases Nat.lt_or_ge g w.heap.size with h' | h'
    · left; rw [← h.same _ h', hg]; exact hl
    · exact .inr h') _, h.same⟩
end

end Go.Proofs.Ytlemmphnmklbeaa

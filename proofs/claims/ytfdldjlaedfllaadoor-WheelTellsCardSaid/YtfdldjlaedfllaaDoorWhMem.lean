/- The wheel in memory: the struct's cells, the maps of its slots, the map of all. -/
import Derived.Test.YtfdldjlaedfllaaDoorWhMap
import Derived.Lib.Hide
namespace Go.Proofs.YtfdldjlaedfllaaDoor
open Go.RowKit Go.Maps
set_option linter.unusedVariables false

/-- What lies in a slot. -/
def slotD (due : Nat → Int) (s : Nat) (i : Nat) : Int := if due i % 64 = s then due i else 0

/-- Times are as they may be: none is past. -/
structure Tm (now : Int) (due : Nat → Int) : Prop where
  lo : 0 ≤ now
  hi : now ≤ 1099511627776
  due : ∀ i, i < 64 → due i = 0 ∨ (now < due i ∧ due i ≤ 1099511627776)

/-- Nothing but what F says has turned. -/
structure Fr (F : Nat → Prop) (w w' : World) : Prop where
  os : w'.os = w.os
  tape : w'.tape = w.tape
  output : w'.output = w.output
  size : w.heap.size ≤ w'.heap.size
  block : ∀ k, k < w.heap.size → ¬ F k → w'.heap[k]? = w.heap[k]?

section
variable {F G : Nat → Prop} {w w' w'' : World}
theorem Fr.refl (F : Nat → Prop) (w : World) : Fr F w w := ⟨rfl, rfl, rfl, Nat.le_refl _, fun _ _ _ => rfl⟩
theorem Fr.trans (h : Fr F w w') (k : Fr G w' w'') (hG : ∀ b, G b → F b ∨ w.heap.size ≤ b) : Fr F w w'' :=
  ⟨k.os.trans h.os, k.tape.trans h.tape, k.output.trans h.output, Nat.le_trans h.size k.size, fun b hb hF =>
    (k.block b (Nat.lt_of_lt_of_le hb h.size) (fun e => by rcases hG b e with e | e; exact hF e; omega)).trans (h.block b hb hF)⟩
theorem Fr.mono (h : Fr F w w') (hG : ∀ b, F b → G b) : Fr G w w' := ⟨h.os, h.tape, h.output, h.size, fun b hb hF => h.block b hb fun e => hF (hG b e)⟩
theorem Fr.below {base : Nat} (h : Fr F w w') (hb : base ≤ w.heap.size) (hF : ∀ k, F k → base ≤ k) : Below base w w' :=
  ⟨h.os, h.tape, h.output, h.size, fun k hk => h.block k (by omega) fun e => by have := hF k e; omega⟩
theorem Fr.of_grown {b : Option Nat} (h : w.grownBy w' b) (hF : ∀ k, b = some k → F k) : Fr F w w' :=
  ⟨h.os, h.tape, h.output, h.size, fun k hk hn => h.block k hk fun e => hn (hF k e.symm)⟩
theorem Fr.of_below {base : Nat} (h : Below base w w') (hF : ∀ k, base ≤ k → k < w.heap.size → F k) : Fr F w w' :=
  ⟨h.os, h.tape, h.output, h.size, fun k hk hn => h.block k (by
    rcases Nat.lt_or_ge k base with h | h
    · exact h
    · exact absurd (hF k h hk) hn)⟩
theorem Fr.alloc (o : Obj) : Fr F w (w.alloc o) := Fr.of_grown (World.grownBy_alloc w o none) (by simp)
theorem Fr.drewN (w : World) (q : Nat) : Fr F w (w.drewN q) := ⟨rfl, rfl, rfl, Nat.le_refl _, fun _ _ _ => rfl⟩
theorem Fr.setCell {p j : Nat} {v : Value} (hF : F p) : Fr F w (w.setCell ⟨p, j, none⟩ v) :=
  ⟨rfl, rfl, rfl, by simp, fun k hk hn => Below.heap_setCell _ _ _ _ (fun e => hn (by rw [show k = p from e]; exact hF))⟩
theorem Fr.cell (h : Fr F w w') {a : Addr} (hn : ¬ F a.block) {v : Value} (hc : w.cell? a = some v) : w'.cell? a = some v :=
  (World.cell?_of_block (h.block _ (World.block_lt_of_cell? w _ hc) hn)).trans hc
end

/-- The wheel at p: bA the map of all, B the maps of the slots. -/
structure WhB (w : World) (p bA : Nat) (B : Nat → Option Nat) (N : Nat) (now : Int) (due : Nat → Int) : Prop where
  c0 : w.cell? ⟨p, 0, none⟩ = some (.int .i64 now)
  ca : w.cell? ⟨p, 65, none⟩ = some (.map (some bA))
  cs : ∀ s, s < 64 → w.cell? ⟨p, 1 + s, none⟩ = some (.map (B s))
  fz : ∀ j, w.frozen? ⟨p, j, none⟩ = false
  at_ : MapD w bA N due
  no : ∀ s, s < 64 → B s = none → ∀ i, i < 64 → slotD due s i = 0
  sl : ∀ s b, s < 64 → B s = some b → MapD w b N (slotD due s)
  ne : ∀ s, s < 64 → B s ≠ some bA
  inj : ∀ s t b, s < 64 → t < 64 → B s = some b → B t = some b → s = t

def Foot (p bA : Nat) (B : Nat → Option Nat) (k : Nat) : Prop := k = p ∨ k = bA ∨ ∃ s, s < 64 ∧ B s = some k

def Wh (w : World) (F : Nat → Prop) (p N : Nat) (now : Int) (due : Nat → Int) : Prop := ∃ bA B, WhB w p bA B N now due ∧ ∀ k, F k ↔ Foot p bA B k

section
variable {w w' : World} {F G : Nat → Prop} {p bA N : Nat} {B : Nat → Option Nat} {now : Int} {due due' : Nat → Int}
theorem WhB.p_lt (h : WhB w p bA B N now due) : p < w.heap.size := World.block_lt_of_cell? w ⟨p, 0, none⟩ h.c0
theorem WhB.not_map (h : WhB w p bA B N now due) {b : Nat} {es : Array MapEntry} {cl : Nat} (e : w.heap[b]? = some (.map es cl)) : b ≠ p := by
  rintro rfl
  have := h.c0
  simp [World.cell?, e] at this
theorem WhB.p_ne (h : WhB w p bA B N now due) : bA ≠ p := by obtain ⟨es, cl, e⟩ := h.at_.isMap; exact h.not_map e
theorem WhB.p_ne' (h : WhB w p bA B N now due) {s b : Nat} (hs : s < 64) (hb : B s = some b) : b ≠ p := by obtain ⟨es, cl, e⟩ := (h.sl s b hs hb).isMap; exact h.not_map e
theorem Wh.lt (h : Wh w F p N now due) : ∀ k, F k → k < w.heap.size := fun k hk => by
  obtain ⟨bA, B, h, hF⟩ := h
  rcases (hF k).1 hk with rfl | rfl | ⟨s, hs, hb⟩
  · exact h.p_lt
  · exact h.at_.lt
  · exact (h.sl s k hs hb).lt
/-- The wheel stays what it is while other blocks are written. -/
theorem WhB.same (h : WhB w p bA B N now due) (hk : ∀ k, Foot p bA B k → w'.heap[k]? = w.heap[k]?) : WhB w' p bA B N now due := by
  have hp := hk p (.inl rfl)
  refine ⟨(World.cell?_of_block hp).trans h.c0, (World.cell?_of_block hp).trans h.ca, fun s hs => (World.cell?_of_block hp).trans (h.cs s hs), fun j => ?_, h.at_.same (hk _ (.inr (.inl rfl))), h.no, fun s b hs hb => (h.sl s b hs hb).same (hk _ (.inr (.inr ⟨s, hs, hb⟩))), h.ne, h.inj⟩
  have := h.fz j
  unfold World.frozen? at this ⊢
  rw [hp]
  exact this
theorem Wh.same (h : Wh w F p N now due) (hk : ∀ k, F k → w'.heap[k]? = w.heap[k]?) : Wh w' F p N now due := by
  obtain ⟨bA, B, h, hF⟩ := h
  exact ⟨bA, B, h.same fun k e => hk k ((hF k).2 e), hF⟩
theorem Wh.keep (h : Wh w F p N now due) (hf : Fr G w w') (hG : ∀ k, F k → ¬ G k) : Wh w' F p N now due := h.same fun k e => hf.block k (h.lt k e) (hG k e)
theorem Wh.below (h : Wh w F p N now due) (hb : Below w.heap.size w w') : Wh w' F p N now due := h.same fun k e => hb.block k (h.lt k e)
theorem WhB.mono (h : WhB w p bA B N now due) {M : Nat} (hM : N ≤ M) : WhB w p bA B M now due :=
  { h with at_ := h.at_.mono hM, sl := fun s b hs hb => (h.sl s b hs hb).mono hM }
theorem Wh.mono (h : Wh w F p N now due) {M : Nat} (hM : N ≤ M) : Wh w F p M now due := by
  obtain ⟨bA, B, h, hF⟩ := h
  exact ⟨bA, B, h.mono hM, hF⟩
theorem WhB.congr (h : WhB w p bA B N now due) (e : ∀ i, i < 64 → due i = due' i) : WhB w p bA B N now due' :=
  { h with
    at_ := h.at_.congr e
    no := fun s hs hb i hi => by have := h.no s hs hb i hi; unfold slotD at this ⊢; rw [← e i hi]; exact this
    sl := fun s b hs hb => (h.sl s b hs hb).congr fun i hi => by unfold slotD; rw [e i hi] }
theorem Wh.congr (h : Wh w F p N now due) (e : ∀ i, i < 64 → due i = due' i) : Wh w F p N now due' := by
  obtain ⟨bA, B, h, hF⟩ := h
  exact ⟨bA, B, h.congr e, hF⟩

/-- An id that is due at no time lies in no slot; one that is set lies in the one of its time. -/
theorem slotD_set {i : Nat} {x : Int} (s : Nat) (hx : x ≠ 0) (h0 : due i = 0) : ∀ k, slotD (setD due i x) s k = if x % 64 = s then setD (slotD due s) i x k else slotD due s k := fun k => by
  unfold slotD setD
  by_cases e : k = i
  · subst e
    simp only [if_pos]
    by_cases h : x % 64 = s
    · rw [if_pos h, if_pos h]
    · rw [if_neg h, if_neg h, h0]; simp
  · simp only [if_neg e]
    split <;> simp
theorem slotD_del {i : Nat} (s : Nat) : ∀ k, slotD (setD due i 0) s k = if due i % 64 = s then setD (slotD due s) i 0 k else slotD due s k := fun k => by
  unfold slotD setD
  by_cases e : k = i
  · subst e
    simp only [if_pos]
    by_cases h : due k % 64 = s
    · rw [if_pos h]; split <;> rfl
    · rw [if_neg h, if_neg h]; split <;> rfl
  · simp only [if_neg e]
    split <;> simp
end

end Go.Proofs.YtfdldjlaedfllaaDoor

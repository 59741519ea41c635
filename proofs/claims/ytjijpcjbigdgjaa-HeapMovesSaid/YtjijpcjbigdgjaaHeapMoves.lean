/- HeapMoves: a key that changes is as if it had been put so at once. For all inputs; no condition. -/
import Derived.Test.YtjijpcjbigdgjaaHeapSorts
namespace Go.Proofs.Ytjijpcjbigdgjaa
open Go.RowKit
set_option linter.unusedVariables false

theorem Hp.restrict {w : World} {h N m : Nat} {S : Nat → Prop} {has : Nat → Bool} {key : Nat → Int} (hp : Hp w h N m S has key) : Hp w h N m (fun b => S b ∧ b < w.heap.size) has key := by
  obtain ⟨ga, gk, tv, T, at_, ks, hm, r1, r2, r3, r4, r5⟩ := hp
  refine ⟨ga, gk, tv, T, at_, ks, hm, r1, r2, r3, r4, fun k hk => ⟨r5 k hk, ?_⟩⟩
  rcases hk with e | e | e | e
  · subst e; exact hm.blk.lt
  · subst e; exact hm.ra.lt
  · subst e; exact hm.rk.lt
  · exact (hm.own.lt k e).2

/-- Two heaps of the call's own that share nothing. -/
def TwoHp (W w : World) (g h N m m' : Nat) (has has' : Nat → Bool) (key key' : Nat → Int) : Prop :=
  ∃ S S', Hp w g N m S has key ∧ Hp w h N m' S' has' key' ∧ Below W.heap.size W w ∧ (∀ b, S b → W.heap.size ≤ b ∧ b < w.heap.size) ∧ (∀ b, S' b → W.heap.size ≤ b ∧ b < w.heap.size) ∧ ∀ b, S b → ¬ S' b

section
variable {W w w' : World} {g h N m m' n : Nat} {has has' hb : Nat → Bool} {key key' kb : Nat → Int}
theorem TwoHp.swap (t : TwoHp W w g h N m m' has has' key key') : TwoHp W w h g N m' m has' has key' key := by
  obtain ⟨S, S', a, b, c, d, e, f⟩ := t
  exact ⟨S', S, b, a, c, e, d, fun b h1 h2 => f b h2 h1⟩
theorem TwoHp.bel (t : TwoHp W w g h N m m' has has' key key') : Below W.heap.size W w := by
  obtain ⟨S, S', a, b, c, d, e, f⟩ := t
  exact c
theorem TwoHp.drewN (t : TwoHp W w g h N m m' has has' key key') (k : Nat) : TwoHp W (w.drewN k) g h N m m' has has' key key' := by
  obtain ⟨S, S', ⟨ga, gk, tv, T, at_, ks, hm, r⟩, ⟨ga', gk', tv', T', at_', ks', hm', r'⟩, c, d, e, f⟩ := t
  exact ⟨S, S', ⟨ga, gk, tv, T, at_, ks, hm.drewN k, r⟩, ⟨ga', gk', tv', T', at_', ks', hm'.drewN k, r'⟩, below_drewN c k, d, e, f⟩
theorem TwoHp.step {S S' : Nat → Prop} (b : Hp w h N m' S' has' key') (c : Below W.heap.size W w) (d : ∀ b, S b → W.heap.size ≤ b ∧ b < w.heap.size) (e : ∀ b, S' b → W.heap.size ≤ b ∧ b < w.heap.size) (f : ∀ b, S b → ¬ S' b)
    (st : HpStep w w' g N n S hb kb) : TwoHp W w' g h N n m' hb has' kb key' := by
  obtain ⟨S1, hp, ht, hn⟩ := st
  have hsz := ht.size
  have hcz := c.size
  refine ⟨_, S', hp.restrict, b.touch ht (fun k hk hs => f k hs hk), ht.below c c.size (fun i hi => (d i hi).1), fun k hk => ⟨?_, hk.2⟩, fun k hk => ⟨(e k hk).1, by have := (e k hk).2; omega⟩, fun k hk hk' => ?_⟩
  · rcases hn k hk.1 with x | x
    · exact (d k x).1
    · omega
  · rcases hn k hk.1 with x | x
    · exact f k x hk'
    · have := (e k hk').2; omega
theorem TwoHp.congr {has2 has2' : Nat → Bool} {key2 key2' : Nat → Int} (t : TwoHp W w g h N m m' has has' key key') (e1 : ∀ j, j < N → has j = has2 j) (e2 : ∀ j, j < N → has' j = has2' j) (e3 : ∀ j, j < N → has j = true → key j = key2 j) (e4 : ∀ j, j < N → has' j = true → key' j = key2' j) :
    TwoHp W w g h N m m' has2 has2' key2 key2' := by
  obtain ⟨S, S', ⟨ga, gk, tv, T, at_, ks, hm, r1, r2, r3, r4, r5⟩, ⟨ga', gk', tv', T', at_', ks', hm', s1, s2, s3, s4, s5⟩, c⟩ := t
  exact ⟨S, S', ⟨ga, gk, tv, T, at_, ks, hm, r1, r2, fun i hi => by rw [← e1 i hi]; exact r3 i hi, fun i hi hh => by rw [r4 i hi (by rw [e1 i hi]; exact hh), e3 i hi (by rw [e1 i hi]; exact hh)], r5⟩,
    ⟨ga', gk', tv', T', at_', ks', hm', s1, s2, fun i hi => by rw [← e2 i hi]; exact s3 i hi, fun i hi hh => by rw [s4 i hi (by rw [e2 i hi]; exact hh), e4 i hi (by rw [e2 i hi]; exact hh)], s5⟩, c⟩
theorem TwoHp.put {i : Nat} (x k : Int) (hx : x = (i : Int)) (t : TwoHp W w g h N m m' has has' key key') (hi : i < N) :
    Calls Try.prog 24 #[.pointer (some ⟨g, 0, none⟩), .int .i64 x, .int .i64 k] w fun e w' => e = .returned .nilIface ∧ TwoHp W w' g h N (if has i then m else m + 1) m' (upd has i true) has' (upd key i k) key' := by
  obtain ⟨S, S', a, b, c, d, e, f⟩ := t
  exact (heapPut g N m i S has key x k hx w a hi).mono fun _ w' ⟨he, hst⟩ => ⟨he, TwoHp.step b c d e f hst⟩
theorem TwoHp.drop {i : Nat} (x : Int) (hx : x = (i : Int)) (t : TwoHp W w g h N m m' has has' key key') (hi : i < N) (hn : has i = true) :
    Calls Try.prog 26 #[.pointer (some ⟨g, 0, none⟩), .int .i64 x] w fun e w' => e = .returned .nilIface ∧ TwoHp W w' g h N (m - 1) m' (upd has i false) has' key key' := by
  obtain ⟨S, S', a, b, c, d, e, f⟩ := t
  exact (heapDrop g N m i S has key x hx w a hi hn).mono fun _ w' ⟨he, hst⟩ => ⟨he, TwoHp.step b c d e f hst⟩
theorem TwoHp.min (t : TwoHp W w g h N m m' has has' key key') (hm0 : 0 < m) :
    Calls Try.prog 25 #[.pointer (some ⟨g, 0, none⟩)] w fun e w' => ∃ i : Nat, e = .returned (.tuple #[.int .i64 i, .int .i64 (key i), .nilIface]) ∧ IsLeast N has key i ∧ TwoHp W w' g h N m m' has has' key key' := by
  have t' := t
  obtain ⟨S, S', a, b, c, d, e, f⟩ := t
  exact (heapMin_some g N m S has key w a hm0).mono fun e w' ⟨i, he, hl, n, hw⟩ => ⟨i, he, hl, by rw [hw]; exact t'.drewN n⟩
theorem TwoHp.len (t : TwoHp W w g h N m m' has has' key key') :
    Calls Try.prog 27 #[.pointer (some ⟨g, 0, none⟩)] w fun e w' => e = .returned (.int .i64 m) ∧ w = w' := by
  obtain ⟨S, S', a, b, c, d, e, f⟩ := t
  exact heapLen g N m S has key w a
end

theorem IsLeast.one {N : Nat} {has : Nat → Bool} {key : Nat → Int} {a b : Nat} (h : IsLeast N has key a) (h' : IsLeast N has key b) : a = b := by
  have h1 := h.2.2 b h'.1 h'.2.1
  have h2 := h'.2.2 a h.1 h.2.1
  unfold AheadP at h1 h2
  omega

/-- Two new ones. -/
theorem TwoHp.of_new {W w w' : World} {g h N : Nat} {S S' : Nat → Prop} {key key' : Nat → Int} (hb : Below W.heap.size W w) (h1 : Hp w g N 0 S (fun _ => false) key) (h2 : ∀ b, S b → W.heap.size ≤ b ∧ b < w.heap.size)
    (h3 : Hp w' h N 0 S' (fun _ => false) key') (h4 : Below w.heap.size w w') (h5 : ∀ b, S' b → w.heap.size ≤ b ∧ b < w'.heap.size) : TwoHp W w' g h N 0 0 (fun _ => false) (fun _ => false) key key' := by
  have hz := hb.size
  have hz4 := h4.size
  refine ⟨S, S', h1.touch (S' := fun b => w.heap.size ≤ b) ⟨h4.os, h4.tape, h4.output, h4.size, fun k hk _ => h4.block k hk⟩ (fun k hk hge => by have := (h2 k hk).2; omega), h3, keep hb h4, fun b hb' => ?_, fun b hb' => ?_, fun b hb1 hb2 => ?_⟩
  · have := h2 b hb'; omega
  · have := h5 b hb'; omega
  · have := h2 b hb1; have := h5 b hb2; omega

def lowK (k : Nat) : Nat → Bool := fun j => decide (j < k)
def lowBut (i k : Nat) : Nat → Bool := fun j => decide (j < k ∧ j ≠ i)
def cntBut (i k : Nat) : Nat := if i < k then k - 1 else k
theorem lowK_put (k : Nat) : upd (lowK k) k true = lowK (k + 1) := by
  funext j; unfold lowK
  by_cases e : j = k
  · subst e; rw [upd_same]; simp
  · rw [upd_other _ _ e, Bool.eq_iff_iff]; simp; omega
theorem lowBut_put {i k : Nat} (h : k ≠ i) : upd (lowBut i k) k true = lowBut i (k + 1) := by
  funext j; unfold lowBut
  by_cases e : j = k
  · subst e; rw [upd_same]; simp [h]
  · rw [upd_other _ _ e, Bool.eq_iff_iff]; simp; omega
theorem lowBut_skip (i : Nat) : lowBut i i = lowBut i (i + 1) := by
  funext j; unfold lowBut; rw [Bool.eq_iff_iff]; simp; omega
theorem upd_upd {α : Type} (f : Nat → α) (i : Nat) (x y : α) : upd (upd f i x) i y = upd f i y := by
  funext j
  by_cases e : j = i
  · subst e; rw [upd_same, upd_same]
  · rw [upd_other _ _ e, upd_other _ _ e, upd_other _ _ e]

end Go.Proofs.Ytjijpcjbigdgjaa

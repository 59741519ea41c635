/- Which has the least key, place by place; how many have one. Plain laws; the state of a law of heaps. -/
import Derived.Test.YtdilajieimbdnaaDoorHeapOwn
import Derived.Test.YtdilajieimbdnaaDoorBellMath
namespace Go.Proofs.YtdilajieimbdnaaDoor
open Go.RowKit
set_option linter.unusedVariables false

theorem cntB_upd_at (p : Nat → Bool) (i : Nat) (b : Bool) : ∀ n, n ≤ i → cntB (upd p i b) n = cntB p n
  | 0, _ => rfl
  | n + 1, h => by
    show cntB (upd p i b) n + (if upd p i b n = true then 1 else 0) = cntB p n + (if p n = true then 1 else 0)
    rw [cntB_upd_at p i b n (by omega), upd_other _ _ (by omega)]
theorem cntB_upd (p : Nat → Bool) (i : Nat) (b : Bool) : ∀ n, i < n → cntB (upd p i b) n + (if p i = true then 1 else 0) = cntB p n + (if b = true then 1 else 0)
  | 0, h => absurd h (by omega)
  | n + 1, h => by
    show cntB (upd p i b) n + (if upd p i b n = true then 1 else 0) + (if p i = true then 1 else 0) = cntB p n + (if p n = true then 1 else 0) + (if b = true then 1 else 0)
    by_cases e : i = n
    · subst e
      rw [cntB_upd_at p i b i (Nat.le_refl _), upd_same]
      omega
    · have ih := cntB_upd p i b n (by omega)
      rw [upd_other _ _ (fun e' => e e'.symm)]
      omega

/-- Of the first j the least one, of those that have a key. -/
def BestTo (has : Nat → Bool) (key : Nat → Int) (j : Nat) (b : Int) : Prop :=
  (b = -1 ∧ ∀ i, i < j → has i = false) ∨ ∃ k : Nat, b = k ∧ k < j ∧ has k = true ∧ ∀ i, i < j → has i = true → ¬ AheadP key i k

theorem BestTo.none {has : Nat → Bool} {key : Nat → Int} {j : Nat} {b : Int} (h : BestTo has key j b) (hj : has j = false) : BestTo has key (j + 1) b := by
  rcases h with ⟨e, h⟩ | ⟨k, e, hk, h1, h2⟩
  · exact .inl ⟨e, fun i hi => by
      rcases Nat.lt_or_ge i j with h' | h'
      · exact h i h'
      · obtain rfl : i = j := by omega
        exact hj⟩
  · exact .inr ⟨k, e, by omega, h1, fun i hi hhi => by
      rcases Nat.lt_or_ge i j with h' | h'
      · exact h2 i h' hhi
      · obtain rfl : i = j := by omega
        rw [hj] at hhi; cases hhi⟩
theorem BestTo.first {has : Nat → Bool} {key : Nat → Int} {j : Nat} (h : BestTo has key j (-1)) (hj : has j = true) : BestTo has key (j + 1) j := by
  rcases h with ⟨-, h⟩ | ⟨k, e, -⟩
  · exact .inr ⟨j, rfl, by omega, hj, fun i hi hhi => by
      rcases Nat.lt_or_ge i j with h' | h'
      · rw [h i h'] at hhi; cases hhi
      · obtain rfl : i = j := by omega
        exact notAhead_refl⟩
  · omega
theorem BestTo.less {has : Nat → Bool} {key : Nat → Int} {j k : Nat} (h : BestTo has key j k) (hj : has j = true) (hlt : key j < key k) : BestTo has key (j + 1) j := by
  rcases h with ⟨e, -⟩ | ⟨k', e, hk, h1, h2⟩
  · omega
  · obtain rfl : k = k' := by omega
    exact .inr ⟨j, rfl, by omega, hj, fun i hi hhi => by
      rcases Nat.lt_or_ge i j with h' | h'
      · have := h2 i h' hhi
        unfold AheadP at this ⊢
        omega
      · obtain rfl : i = j := by omega
        exact notAhead_refl⟩
theorem BestTo.more {has : Nat → Bool} {key : Nat → Int} {j k : Nat} (h : BestTo has key j k) (hlt : ¬ key j < key k) : BestTo has key (j + 1) k := by
  rcases h with ⟨e, -⟩ | ⟨k', e, hk, h1, h2⟩
  · omega
  · obtain rfl : k = k' := by omega
    exact .inr ⟨k, rfl, by omega, h1, fun i hi hhi => by
      rcases Nat.lt_or_ge i j with h' | h'
      · exact h2 i h' hhi
      · obtain rfl : i = j := by omega
        unfold AheadP
        omega⟩
theorem BestTo.least {has : Nat → Bool} {key : Nat → Int} {n k : Nat} (h : BestTo has key n k) {i : Nat} (hi : IsLeast n has key i) : i = k := by
  rcases h with ⟨e, -⟩ | ⟨k', e, hk, h1, h2⟩
  · omega
  · obtain rfl : k = k' := by omega
    have h3 := h2 i hi.1 hi.2.1
    have h4 := hi.2.2 k hk h1
    unfold AheadP at h3 h4
    omega
theorem BestTo.empty {has : Nat → Bool} {key : Nat → Int} {n : Nat} (h : BestTo has key n (-1)) : cntB has n = 0 := by
  rcases h with ⟨-, h⟩ | ⟨k, e, -⟩
  · have : ∀ m, m ≤ n → cntB has m = 0 := by
      intro m
      induction m with
      | zero => exact fun _ => rfl
      | succ m ih =>
        intro hm
        show cntB has m + (if has m = true then 1 else 0) = 0
        rw [ih (by omega), h m (by omega)]
        rfl
    exact this n (Nat.le_refl _)
  · omega
theorem BestTo.some_ {has : Nat → Bool} {key : Nat → Int} {n k : Nat} (h : BestTo has key n k) : k < n ∧ 0 < cntB has n := by
  rcases h with ⟨e, -⟩ | ⟨k', e, hk, h1, -⟩
  · omega
  · obtain rfl : k = k' := by omega
    exact ⟨hk, cntB_pos hk h1⟩

/-- The heap and the two lists, in the middle of the law. -/
def HeapT (w0 wr : World) (h n gh gk : Nat) (has : Nat → Bool) (key : Nat → Int) : Prop :=
  (∃ S, Hp wr h n (cntB has n) S has key ∧ ∀ b, S b → w0.heap.size ≤ b ∧ b ≠ gh ∧ b ≠ gk) ∧ RowP wr gh 4 n (fun i => .bool (has i)) ∧ RowP wr gk 3 n (fun i => .int .i64 (key i)) ∧
    w0.heap.size ≤ gh ∧ w0.heap.size ≤ gk ∧ gh ≠ gk ∧ Below w0.heap.size w0 wr

theorem Hp.touch0 {w w' : World} {h N m : Nat} {S : Nat → Prop} {has : Nat → Bool} {key : Nat → Int} (hp : Hp w h N m S has key) (hb : Below w.heap.size w w') : Hp w' h N m S has key :=
  hp.touch (S' := fun _ => False) (Touch.of_below hb) fun _ _ h => h

section
variable {w0 wr w' : World} {h n gh gk i : Nat} {has : Nat → Bool} {key : Nat → Int}
theorem HeapT.on (ht : HeapT w0 wr h n gh gk has key) (hb : Below wr.heap.size wr w') : HeapT w0 w' h n gh gk has key := by
  obtain ⟨⟨S, hp, hs⟩, h1, h2, h3, h4, h5, h6⟩ := ht
  exact ⟨⟨S, hp.touch0 hb, hs⟩, h1.below hb h1.lt, h2.below hb h2.lt, h3, h4, h5, keep h6 hb⟩

/-- Behind a put or a drop: the heap is on, the lists are not yet. -/
def HeapU (w0 wr : World) (h n gh gk : Nat) (has has' : Nat → Bool) (key key' : Nat → Int) : Prop :=
  (∃ S, Hp wr h n (cntB has' n) S has' key' ∧ ∀ b, S b → w0.heap.size ≤ b ∧ b ≠ gh ∧ b ≠ gk) ∧ RowP wr gh 4 n (fun i => .bool (has i)) ∧ RowP wr gk 3 n (fun i => .int .i64 (key i)) ∧
    w0.heap.size ≤ gh ∧ w0.heap.size ≤ gk ∧ gh ≠ gk ∧ Below w0.heap.size w0 wr

theorem HeapT.put (x k : Int) (hx : x = (i : Int)) (ht : HeapT w0 wr h n gh gk has key) (hi : i < n) :
    Calls Tryd.prog 20 #[.pointer (some ⟨h, 0, none⟩), .int .i64 x, .int .i64 k] wr fun e w' => e = .returned .nilIface ∧ HeapU w0 w' h n gh gk has (upd has i true) key (upd key i k) := by
  obtain ⟨⟨S, hp, hs⟩, h1, h2, h3, h4, h5, h6⟩ := ht
  refine (heapPut h n (cntB has n) i S has key x k hx wr hp hi).mono ?_
  rintro e w' ⟨he, S', hp', ht', hS'⟩
  have l := h6.size
  have l1 := h1.lt
  have l2 := h2.lt
  have hc := cntB_upd has i true n hi
  have hm : (if has i then cntB has n else cntB has n + 1) = cntB (upd has i true) n := by
    cases hh : has i
    · rw [hh] at hc; simp at hc ⊢; omega
    · rw [hh] at hc; simp at hc ⊢; omega
  rw [hm] at hp'
  refine ⟨he, ⟨S', hp', fun b hb => ?_⟩, h1.touch ht' fun hb => (hs _ hb).2.1 rfl, h2.touch ht' fun hb => (hs _ hb).2.2 rfl, h3, h4, h5, ht'.below h6 l fun b hb => (hs b hb).1⟩
  rcases hS' b hb with hb' | hb'
  · exact hs b hb'
  · exact ⟨by omega, by omega, by omega⟩

theorem HeapT.drop (x : Int) (hx : x = (i : Int)) (ht : HeapT w0 wr h n gh gk has key) (hi : i < n) (hn : has i = true) :
    Calls Tryd.prog 19 #[.pointer (some ⟨h, 0, none⟩), .int .i64 x] wr fun e w' => e = .returned .nilIface ∧ HeapU w0 w' h n gh gk has (upd has i false) key key := by
  obtain ⟨⟨S, hp, hs⟩, h1, h2, h3, h4, h5, h6⟩ := ht
  refine (heapDrop h n (cntB has n) i S has key x hx wr hp hi hn).mono ?_
  rintro e w' ⟨he, S', hp', ht', hS'⟩
  have l := h6.size
  have l1 := h1.lt
  have l2 := h2.lt
  have hc := cntB_upd has i false n hi
  have hm : cntB has n - 1 = cntB (upd has i false) n := by
    rw [hn] at hc; simp at hc; omega
  rw [hm] at hp'
  refine ⟨he, ⟨S', hp', fun b hb => ?_⟩, h1.touch ht' fun hb => (hs _ hb).2.1 rfl, h2.touch ht' fun hb => (hs _ hb).2.2 rfl, h3, h4, h5, ht'.below h6 l fun b hb => (hs b hb).1⟩
  rcases hS' b hb with hb' | hb'
  · exact hs b hb'
  · exact ⟨by omega, by omega, by omega⟩

theorem HeapU.on {has' : Nat → Bool} {key' : Nat → Int} (ht : HeapU w0 wr h n gh gk has has' key key') (hb : Below wr.heap.size wr w') : HeapU w0 w' h n gh gk has has' key key' := by
  obtain ⟨⟨S, hp, hs⟩, h1, h2, h3, h4, h5, h6⟩ := ht
  exact ⟨⟨S, hp.touch0 hb, hs⟩, h1.below hb h1.lt, h2.below hb h2.lt, h3, h4, h5, keep h6 hb⟩

theorem upd_boolV (has : Nat → Bool) (i : Nat) (b : Bool) (j : Nat) : upd (fun i => Value.bool (has i)) i (.bool b) j = .bool (upd has i b j) := by
  unfold upd
  split <;> rfl
theorem upd_intV (key : Nat → Int) (i : Nat) (x : Int) (j : Nat) : upd (fun i => Value.int .i64 (key i)) i (.int .i64 x) j = .int .i64 (upd key i x j) := by
  unfold upd
  split <;> rfl

theorem HeapU.dropped (ht : HeapU w0 wr h n gh gk has (upd has i false) key key) : HeapT w0 (wr.setCell ⟨gh, i, none⟩ (.bool false)) h n gh gk (upd has i false) key := by
  obtain ⟨⟨S, hp, hs⟩, h1, h2, h3, h4, h5, h6⟩ := ht
  refine ⟨⟨S, hp.touch (S' := fun b => b = gh) (Touch.setCell (S := fun b => b = gh) (p := ⟨gh, i, none⟩) (Touch.refl _ wr) (.inl rfl) _) fun b hb e => (hs b hb).2.1 e, hs⟩, (h1.set i _).congr fun j _ => upd_boolV has i false j, h2.setOther (fun e => h5 e.symm) _, h3, h4, h5, h6.setCell h3 _⟩

theorem HeapU.putted {k : Int} (ht : HeapU w0 wr h n gh gk has (upd has i true) key (upd key i k)) : HeapT w0 ((wr.setCell ⟨gh, i, none⟩ (.bool true)).setCell ⟨gk, i, none⟩ (.int .i64 k)) h n gh gk (upd has i true) (upd key i k) := by
  obtain ⟨⟨S, hp, hs⟩, h1, h2, h3, h4, h5, h6⟩ := ht
  refine ⟨⟨S, hp.touch (S' := fun b => b = gh ∨ b = gk) (((Touch.refl _ _).setCell (.inl (.inl rfl)) _).setCell (.inl (.inr rfl)) _) fun b hb e => e.elim (hs b hb).2.1 (hs b hb).2.2, hs⟩, ((h1.set i _).congr fun j _ => upd_boolV has i true j).setOther h5 _, ((h2.setOther (fun e => h5 e.symm) _).set i _).congr fun j _ => upd_intV key i k j, h3, h4, h5, (h6.setCell h3 _).setCell h4 _⟩
end

set_option maxHeartbeats 1000000 in
theorem heapPut_range (h N m : Nat) (S : Nat → Prop) (has : Nat → Bool) (key : Nat → Int) (x k : Int) (w : World) (hp : Hp w h N m S has key) (hx : x < 0 ∨ (N : Int) ≤ x) :
    Calls Tryd.prog 20 #[.pointer (some ⟨h, 0, none⟩), .int .i64 x, .int .i64 k] w fun e w' => e = .returned (errNo 1) ∧ w = w' := by
  obtain ⟨ga, gk, tv, T, at0, ks, hm, hb, ho, hh, hk, hs⟩ := hp
  have c1 := hm.blk.cell 1
  simp at c1
  clear hm hb ho hh hk hs
  rcases hx with hx | hx
  · go_enter Tryd.func20, Tryd.ntmps20
    go_wp2_with fail
    go_ret
    exact ⟨rfl, rfl⟩
  · by_cases h0 : x < 0
    · omega
    · go_enter Tryd.func20, Tryd.ntmps20
      go_wp2_with fail
      go_ret
      exact ⟨rfl, rfl⟩

end Go.Proofs.YtdilajieimbdnaaDoor

/- The walks of the reference's Repeat, StartOf, RoundOf, FarOf. -/
import Derived.Test.YtlemmphnmklbeaaRefCosts
import Derived.Test.YtlemmphnmklbeaaBellRun
import Derived.Test.YtlemmphnmklbeaaFarPlus
namespace Go.Proofs.Ytlemmphnmklbeaa
open Go.RowKit
set_option linter.unusedVariables false

set_option maxRecDepth 100000 in
set_option maxHeartbeats 1000000 in
theorem refRepeat_walk (z : Int) (n : Nat) (x : Int) (hx : x = (n : Int)) (w : World) (hn : n ≤ 1000000) :
    Calls Try.prog 20 #[.int .i64 z, .int .i64 x] w fun e w' => ∃ v, e = .returned v ∧ OwnV w' w.heap.size v n (fun _ => z) ∧ Below w.heap.size w w' := by
  subst hx
  have hn' : (n : Int) ≤ 1000000 := by omega
  go_enter Try.func20, Try.ntmps20
  go_wp2_with fail
  go_loopw [5, 6] (fun v i wr => ∃ q : Nat, q ≤ n ∧ i = .int .i64 q ∧ OwnV wr w.heap.size v q (fun _ => z) ∧ Below w.heap.size w wr) (fun _ i _ => n - (intOf i).toNat)
  case atStart => exact ⟨0, by omega, rfl, OwnV.nil _ _ _, Below.refl _ _⟩
  case round =>
    obtain ⟨q, hq, rfl, hT, hb⟩ := hrel
    have HT := Lib.hid hT
    have HB := Lib.hid hb
    clear hT hb
    by_cases hlt : q < n
    · have hlt' : (q : Int) < n := by omega
      go_wp2_with (at_builtin; refine wpList_append_int rfl (.tmp 12) (.tmp 14) rfl w.heap.size _ q _ rfl (HT.out.alloc _) z ⟨wr.heap.size, 0, none⟩ rfl (cell_new_at _ _ _ rfl) (by omega) (by have := HB.out.size; simp; omega) ?_)
      intro g cap w6 hV6 hb6 _ _
      have HV6 := Lib.hid (hV6.congr (f' := fun _ => z) fun j hj => by
        unfold upd
        split <;> rfl)
      have HB6 := Lib.hid ((HB.out.alloc HB.out.size _).trans hb6)
      clear hV6 hb6
      go_wp2_with fail
      go_roundw
      case rel => exact ⟨q + 1, by omega, by go_num, HV6.out, HB6.out⟩
      case measure => simp [intOf]; omega
    · obtain rfl : q = n := by omega
      go_wp2_with fail
      go_ret
      exact ⟨_, rfl, HT.out, HB.out⟩

set_option maxRecDepth 100000 in
set_option maxHeartbeats 1000000 in
theorem startOf_walk (n t : Nat) (x y : Int) (hx : x = (n : Int)) (hy : y = (t : Int)) (w : World) (ht : t < n) (hn : n ≤ 1000000) :
    Calls Try.prog 8 #[.int .i64 x, .int .i64 y] w fun e w' => ∃ g c, e = .returned (.slice (some ⟨g, 0, none⟩) n c) ∧ w.heap.size ≤ g ∧ RowP w' g 3 n (fun i => .int .i64 (startF t i)) ∧ Below w.heap.size w w' := by
  subst hx
  subst hy
  have ht' : (t : Int) < n := by omega
  have hn' : (n : Int) ≤ 1000000 := by omega
  go_enter Try.func8, Try.ntmps8
  go_wp2_with fail
  have hcall := refRepeat_walk 16 n n rfl w hn
  refine hcall.mono ?_
  clear hcall
  rintro e w1 ⟨v1, rfl, hV, hb1⟩
  obtain ⟨g, c, rfl, hg, hrow⟩ := hV.row (by omega)
  have hc := hrow.cell ht
  have hf := hrow.frozen t
  have HR := Lib.hid ((hrow.set t (.int .i64 0)).congr (f' := fun i => .int .i64 (startF t i)) fun i hi => by
    unfold upd startF
    by_cases e : i = t
    · rw [if_pos e, if_pos e]
    · rw [if_neg e, if_neg e])
  have HB := Lib.hid (hb1.setCell (p := ⟨g, t, none⟩) hg (.int .i64 0))
  have HG := Lib.hid hg
  clear hV hb1 hg hrow
  go_wp2_with fail
  go_ret
  exact ⟨g, c, rfl, HG.out, HR.out, HB.out⟩

/-- What a node thinks, of the first q nodes. -/
def refR (K : Nat → Nat → Int) (d : Nat → Int) (i : Nat) : Nat → Int
  | 0 => 16
  | q + 1 => if q ≠ i ∧ K i q < 16 then min (refR K d i q) (min (K i q + d q) 16) else refR K d i q

theorem refR_yes {K : Nat → Nat → Int} {d : Nat → Int} {i q : Nat} (h1 : q ≠ i) (h2 : K i q < 16) : refR K d i (q + 1) = min (refR K d i q) (min (K i q + d q) 16) := if_pos ⟨h1, h2⟩
theorem refR_no {K : Nat → Nat → Int} {d : Nat → Int} {i q : Nat} (h : q = i ∨ ¬ K i q < 16) : refR K d i (q + 1) = refR K d i q := if_neg fun ⟨h1, h2⟩ => h.elim h1 fun h => h h2
theorem refR_le {K : Nat → Nat → Int} {d : Nat → Int} {i : Nat} : ∀ q, refR K d i q ≤ 16
  | 0 => Int.le_refl _
  | q + 1 => by
    have ih := refR_le (K := K) (d := d) (i := i) q
    unfold refR
    split <;> omega
theorem refR_low {K : Nat → Nat → Int} {d : Nat → Int} {i k : Nat} (h1 : k ≠ i) (h2 : K i k < 16) : ∀ q, k < q → refR K d i q ≤ K i k + d k
  | 0, h => absurd h (by omega)
  | q + 1, h => by
    by_cases e : k = q
    · subst e
      rw [refR_yes h1 h2]
      omega
    · have ih := refR_low (d := d) h1 h2 q (by omega)
      unfold refR
      split <;> omega
theorem refR_is {K : Nat → Nat → Int} {d : Nat → Int} {i : Nat} : ∀ q, refR K d i q = 16 ∨ ∃ k, k < q ∧ k ≠ i ∧ K i k < 16 ∧ refR K d i q = K i k + d k
  | 0 => .inl rfl
  | q + 1 => by
    have ih := refR_is (K := K) (d := d) (i := i) q
    have ih' : refR K d i q = 16 ∨ ∃ k, k < q + 1 ∧ k ≠ i ∧ K i k < 16 ∧ refR K d i q = K i k + d k := by
      rcases ih with h | ⟨k, hk, h⟩
      · exact .inl h
      · exact .inr ⟨k, by omega, h⟩
    by_cases h : q ≠ i ∧ K i q < 16
    · rw [refR_yes h.1 h.2]
      rcases Int.le_total (K i q + d q) 16 with h16 | h16
      · rw [Int.min_eq_left h16]
        rcases Int.le_total (refR K d i q) (K i q + d q) with h2 | h2
        · rw [Int.min_eq_left h2]; exact ih'
        · rw [Int.min_eq_right h2]; exact .inr ⟨q, by omega, h.1, h.2, rfl⟩
      · rw [Int.min_eq_right h16, Int.min_eq_left (refR_le q)]; exact ih'
    · rw [show refR K d i (q + 1) = refR K d i q from if_neg h]; exact ih'

/-- The reference's round is the program's. -/
theorem ref_round {n m t i : Nat} {a b c d : Nat → Int} (hr : Right n m a b c) (hd : RangedV n d) (hi : i < n) : (if i = t then 0 else refR (costF m a b c) d i n) = roundTo t a b c d m i := by
  obtain ⟨h1, h2, h3⟩ := roundTo_round (t := t) (d := d) hr i hi
  have hR := (roundTo_round (t := t) hr).ranged (edge_good hr) hd i hi
  unfold startF at h1 h3
  by_cases e : i = t
  · rw [if_pos e] at h1 ⊢
    omega
  · rw [if_neg e] at h1 h3 ⊢
    refine Int.le_antisymm ?_ ?_
    · rcases h3 with h3 | ⟨v, k, he, h3⟩
      · rw [h3]; exact refR_le n
      · rw [h3]
        obtain ⟨-, hv, hne, -, h15⟩ := he.ok hr
        have ek : costF m a b c i v = k := costV_edge hr he
        rw [← ek]
        exact refR_low (fun e => hne e.symm) (by omega) n hv
    · rcases refR_is (K := costF m a b c) (d := d) (i := i) n with h | ⟨k, hk, hne, hlt, h⟩
      · rw [h]; exact h1
      · rw [h]
        exact h2 k _ (by
          rcases costV_cases hr i k with ⟨e, -⟩ | ⟨-, e, -⟩ | ⟨-, he⟩
          · exact absurd e.symm hne
          · have : costF m a b c i k = 16 := e
            omega
          · exact he)

attribute [local go_sem high] run_min_pair

end Go.Proofs.Ytlemmphnmklbeaa

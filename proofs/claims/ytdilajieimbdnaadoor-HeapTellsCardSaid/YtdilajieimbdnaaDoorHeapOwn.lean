/- A heap of the call's own; the walk of the fact of heaps. -/
import Derived.Test.YtdilajieimbdnaaDoorHeapDrop
namespace Go.Proofs.YtdilajieimbdnaaDoor
open Go.RowKit
set_option linter.unusedVariables false

/-- A heap of the call's own, in the middle of a law. -/
def OwnHp (W w : World) (h N m : Nat) (has : Nat → Bool) (key : Nat → Int) : Prop := ∃ S, Hp w h N m S has key ∧ Below W.heap.size W w ∧ ∀ b, S b → W.heap.size ≤ b

theorem OwnHp.step {W w w' : World} {h N m m' : Nat} {has has' : Nat → Bool} {key key' : Nat → Int} {S : Nat → Prop} (hb : Below W.heap.size W w) (hS : ∀ b, S b → W.heap.size ≤ b) (hs : HpStep w w' h N m' S has' key') : OwnHp W w' h N m' has' key' := by
  obtain ⟨S', hp, ht, hn⟩ := hs
  have l := hb.size
  refine ⟨S', hp, ht.below hb hb.size hS, fun b hb' => ?_⟩
  rcases hn b hb' with e | e
  · exact hS b e
  · omega

theorem OwnHp.drewN {W w : World} {h N m : Nat} {has : Nat → Bool} {key : Nat → Int} (hp : OwnHp W w h N m has key) (n : Nat) : OwnHp W (w.drewN n) h N m has key := by
  obtain ⟨S, ⟨ga, gk, tv, T, at_, ks, hm, r⟩, hb, hs⟩ := hp
  exact ⟨S, ⟨ga, gk, tv, T, at_, ks, hm.drewN n, r⟩, below_drewN hb n, hs⟩

theorem OwnHp.put {W w : World} {h N m i : Nat} {has : Nat → Bool} {key : Nat → Int} (x k : Int) (hx : x = (i : Int)) (hp : OwnHp W w h N m has key) (hi : i < N) :
    Calls Tryd.prog 20 #[.pointer (some ⟨h, 0, none⟩), .int .i64 x, .int .i64 k] w fun e w' => e = .returned .nilIface ∧ OwnHp W w' h N (if has i then m else m + 1) (upd has i true) (upd key i k) := by
  obtain ⟨S, hp, hb, hs⟩ := hp
  exact (heapPut h N m i S has key x k hx w hp hi).mono fun e w' ⟨he, hst⟩ => ⟨he, OwnHp.step (m := m) (has := has) (key := key) hb hs hst⟩

theorem OwnHp.drop {W w : World} {h N m i : Nat} {has : Nat → Bool} {key : Nat → Int} (x : Int) (hx : x = (i : Int)) (hp : OwnHp W w h N m has key) (hi : i < N) (hn : has i = true) :
    Calls Tryd.prog 19 #[.pointer (some ⟨h, 0, none⟩), .int .i64 x] w fun e w' => e = .returned .nilIface ∧ OwnHp W w' h N (m - 1) (upd has i false) key := by
  obtain ⟨S, hp, hb, hs⟩ := hp
  exact (heapDrop h N m i S has key x hx w hp hi hn).mono fun e w' ⟨he, hst⟩ => ⟨he, OwnHp.step (m := m) (has := has) (key := key) hb hs hst⟩

theorem OwnHp.min {W w : World} {h N m : Nat} {has : Nat → Bool} {key : Nat → Int} (hp : OwnHp W w h N m has key) (hm0 : 0 < m) :
    Calls Tryd.prog 21 #[.pointer (some ⟨h, 0, none⟩)] w fun e w' => ∃ i : Nat, e = .returned (.tuple #[.int .i64 i, .int .i64 (key i), .nilIface]) ∧ IsLeast N has key i ∧ OwnHp W w' h N m has key := by
  have hp' := hp
  obtain ⟨S, hp, hb, hs⟩ := hp
  exact (heapMin_some h N m S has key w hp hm0).mono fun e w' ⟨i, he, hl, n, hw⟩ => ⟨i, he, hl, by rw [hw]; exact hp'.drewN n⟩

theorem OwnHp.len {W w : World} {h N m : Nat} {has : Nat → Bool} {key : Nat → Int} (hp : OwnHp W w h N m has key) :
    Calls Tryd.prog 22 #[.pointer (some ⟨h, 0, none⟩)] w fun e w' => e = .returned (.int .i64 m) ∧ w = w' := by
  obtain ⟨S, hp, hb, hs⟩ := hp
  exact heapLen h N m S has key w hp

theorem OwnHp.new (W : World) (N : Nat) (x : Int) (hx : x = (N : Int)) (key : Nat → Int) (w : World) (hN : N ≤ 5000) (hb : Below W.heap.size W w) :
    Calls Tryd.prog 17 #[.int .i64 x] w fun e w' => ∃ h, e = .returned (.tuple #[.pointer (some ⟨h, 0, none⟩), .nilIface]) ∧ OwnHp W w' h N 0 (fun _ => false) key :=
  (heapNew_ok N x hx key w hN).mono fun e w' ⟨h, he, S, hp, hbel, hs, hh⟩ => ⟨h, he, S, hp, keep hb hbel, fun b hb' => Nat.le_trans hb.size (hs b hb').1⟩

set_option maxHeartbeats 1000000 in
theorem heaped_walk (W w : World) (hb : Below W.heap.size W w) :
    Calls Tryd.prog 16 #[] w fun e w' => e = .returned (.bool true) ∧ Below W.heap.size W w' := by
  go_enter Tryd.func16, Tryd.ntmps16
  go_wp2_with fail
  refine (OwnHp.new W 3 _ rfl (fun _ => 0) _ (by omega) hb).mono ?_
  rintro e w1 ⟨h, rfl, hp1⟩
  go_wp2_with fail
  refine (OwnHp.put (i := 1) _ _ rfl hp1 (by omega)).mono ?_
  rintro e w2 ⟨rfl, hp2⟩
  clear hp1 hb
  go_wp2_with fail
  refine (OwnHp.put (i := 2) _ _ rfl hp2 (by omega)).mono ?_
  rintro e w3 ⟨rfl, hp3⟩
  clear hp2
  go_wp2_with fail
  refine (OwnHp.min hp3 (by simp [upd])).mono ?_
  rintro e w4 ⟨i, rfl, hl, hp4⟩
  have hi : i = 2 := by
    obtain ⟨h1, h2, h3⟩ := hl
    have h4 := h3 2 (by omega) (by simp [upd])
    have h5 : i = 0 ∨ i = 1 ∨ i = 2 := by omega
    rcases h5 with rfl | rfl | rfl
    · simp [upd] at h2
    · simp [AheadP, upd] at h4
    · rfl
  have hb4 : Below W.heap.size W w4 := by obtain ⟨S, _, hb, _⟩ := hp4; exact hb
  subst hi
  clear hp3 hl hp4
  have e1 : upd (upd (fun _ => (0 : Int)) 1 5) 2 3 2 = 3 := by simp [upd]
  rw [e1]
  clear e1
  go_wp2_with fail
  go_ret
  exact ⟨rfl, hb4⟩

end Go.Proofs.YtdilajieimbdnaaDoor

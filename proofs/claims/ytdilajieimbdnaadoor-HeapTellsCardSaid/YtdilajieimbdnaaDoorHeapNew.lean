/- The walks of package heap's New, Key, Min, Len. -/
import Derived.Test.YtdilajieimbdnaaDoorHeapOps
namespace Go.Proofs.YtdilajieimbdnaaDoor
open Go.RowKit
set_option linter.unusedVariables false

theorem hmem_new {w : World} {h ga gk N : Nat} (hb : Blk w h 91 #[.slice none 0 0, .slice (some ⟨ga, 0, none⟩) N N, .slice (some ⟨gk, 0, none⟩) N N])
    (ha : RowP w ga 3 N (fun _ => .int .i64 (-1))) (hk : RowP w gk 3 N (fun _ => .int .i64 0)) (n1 : ga ≠ gk) (n2 : h ≠ ga) (n3 : h ≠ gk) (hN : N ≤ 5000) (key : Nat → Int) :
    Hp w h N 0 (hS h ga gk (.slice none 0 0)) (fun _ => false) key :=
  ⟨ga, gk, .slice none 0 0, fun _ => 0, fun _ => -1, fun _ => 0, ⟨hb, ha, hk, World.ownsRow_nil _ _ _ _, n1, by simp [Value.ownBlock], by simp [Value.ownBlock], ⟨n2, n3, by simp [Value.ownBlock]⟩, hN⟩,
    ⟨fun p hp => by omega, fun p hp => by omega, fun i hi h0 => by omega⟩, fun q q0 qm => by omega, fun i hi => rfl, (fun i hi hh => by cases hh), fun _ hx => hx⟩

/-- New's memory in the middle of its loop. -/
def NewMid (w wr : World) (h N k : Nat) : Prop := ∃ ga gk, Blk wr h 91 #[.slice none 0 0, .slice (some ⟨ga, 0, none⟩) N N, .slice (some ⟨gk, 0, none⟩) N N] ∧
  RowP wr ga 3 N (fun i => if i < k then .int .i64 (-1) else .int .i64 0) ∧ RowP wr gk 3 N (fun _ => .int .i64 0) ∧ ga ≠ gk ∧ h ≠ ga ∧ h ≠ gk ∧ w.heap.size ≤ h ∧ w.heap.size ≤ ga ∧ w.heap.size ≤ gk ∧ Below w.heap.size w wr

theorem newMid_start (w : World) (N : Nat) (a b : Nat) (hab : (a = w.heap.size ∧ b = w.heap.size + 1) ∨ (a = w.heap.size + 1 ∧ b = w.heap.size)) :
    NewMid w (((w.alloc (.cells (madeCells #[.int .i64 0] N) 3)).alloc (.cells (madeCells #[.int .i64 0] N) 3)).alloc (.cells #[.slice none 0 0, .slice (some ⟨a, 0, none⟩) N N, .slice (some ⟨b, 0, none⟩) N N] 91)).drew (w.heap.size + 2) N 0 := by
  have r0 : RowP (((w.alloc (.cells (madeCells #[.int .i64 0] N) 3)).alloc (.cells (madeCells #[.int .i64 0] N) 3)).alloc (.cells #[.slice none 0 0, .slice (some ⟨a, 0, none⟩) N N, .slice (some ⟨b, 0, none⟩) N N] 91)).drew w.heap.size 3 N (fun _ => .int .i64 0) :=
    ((RowP.made w (.int .i64 0) N 3).alloc _).alloc _
  have r1 : RowP (((w.alloc (.cells (madeCells #[.int .i64 0] N) 3)).alloc (.cells (madeCells #[.int .i64 0] N) 3)).alloc (.cells #[.slice none 0 0, .slice (some ⟨a, 0, none⟩) N N, .slice (some ⟨b, 0, none⟩) N N] 91)).drew (w.heap.size + 1) 3 N (fun _ => .int .i64 0) := by
    have := (RowP.made (w.alloc (.cells (madeCells #[.int .i64 0] N) 3)) (.int .i64 0) N 3).alloc (.cells #[.slice none 0 0, .slice (some ⟨a, 0, none⟩) N N, .slice (some ⟨b, 0, none⟩) N N] 91)
    have e : (w.alloc (.cells (madeCells #[.int .i64 0] N) 3)).heap.size = w.heap.size + 1 := by simp
    rw [e] at this
    exact this
  have hb : Blk (((w.alloc (.cells (madeCells #[.int .i64 0] N) 3)).alloc (.cells (madeCells #[.int .i64 0] N) 3)).alloc (.cells #[.slice none 0 0, .slice (some ⟨a, 0, none⟩) N N, .slice (some ⟨b, 0, none⟩) N N] 91)).drew (w.heap.size + 2) 91 #[.slice none 0 0, .slice (some ⟨a, 0, none⟩) N N, .slice (some ⟨b, 0, none⟩) N N] := by
    have := Blk.new ((w.alloc (.cells (madeCells #[.int .i64 0] N) 3)).alloc (.cells (madeCells #[.int .i64 0] N) 3)) 91 #[.slice none 0 0, .slice (some ⟨a, 0, none⟩) N N, .slice (some ⟨b, 0, none⟩) N N]
    have e : ((w.alloc (.cells (madeCells #[.int .i64 0] N) 3)).alloc (.cells (madeCells #[.int .i64 0] N) 3)).heap.size = w.heap.size + 2 := by simp
    rw [e] at this
    exact this
  have hbel : Below w.heap.size w (((w.alloc (.cells (madeCells #[.int .i64 0] N) 3)).alloc (.cells (madeCells #[.int .i64 0] N) 3)).alloc (.cells #[.slice none 0 0, .slice (some ⟨a, 0, none⟩) N N, .slice (some ⟨b, 0, none⟩) N N] 91)).drew :=
    ((((Below.refl _ _).alloc (Nat.le_refl _) _).alloc (by simp) _).alloc (by simp; omega) _).drew
  rcases hab with ⟨rfl, rfl⟩ | ⟨rfl, rfl⟩
  · exact ⟨_, _, hb, r0.congr fun i _ => by simp, r1, by omega, by omega, by omega, by omega, by omega, by omega, hbel⟩
  · exact ⟨_, _, hb, r1.congr fun i _ => by simp, r0, by omega, by omega, by omega, by omega, by omega, by omega, hbel⟩

theorem newMid_step {w wr : World} {h N k : Nat} {ga gk : Nat} (hb : Blk wr h 91 #[.slice none 0 0, .slice (some ⟨ga, 0, none⟩) N N, .slice (some ⟨gk, 0, none⟩) N N])
    (ha : RowP wr ga 3 N (fun i => if i < k then .int .i64 (-1) else .int .i64 0)) (hk : RowP wr gk 3 N (fun _ => .int .i64 0)) (n1 : ga ≠ gk) (n2 : h ≠ ga) (n3 : h ≠ gk)
    (l1 : w.heap.size ≤ h) (l2 : w.heap.size ≤ ga) (l3 : w.heap.size ≤ gk) (hbel : Below w.heap.size w wr) : NewMid w (wr.setCell ⟨ga, k, none⟩ (.int .i64 (-1))) h N (k + 1) := by
  refine ⟨ga, gk, hb.far n2 _, ?_, hk.setOther (fun e => n1 e.symm) _, n1, n2, n3, l1, l2, l3, hbel.setCell l2 _⟩
  refine (ha.set k (.int .i64 (-1))).congr fun i _ => ?_
  by_cases e : i = k
  · subst e; rw [upd_same, if_pos (by omega)]
  · rw [upd_other _ _ e]
    by_cases e2 : i < k
    · rw [if_pos e2, if_pos (by omega)]
    · rw [if_neg e2, if_neg (by omega)]

theorem newMid_end {w wr : World} {h N : Nat} (hm : NewMid w wr h N N) (hN : N ≤ 5000) (key : Nat → Int) : ∃ S, Hp wr h N 0 S (fun _ => false) key ∧ Below w.heap.size w wr ∧ (∀ b, S b → w.heap.size ≤ b ∧ b < wr.heap.size) ∧ w.heap.size ≤ h := by
  obtain ⟨ga, gk, hb, ha, hk, n1, n2, n3, l1, l2, l3, hbel⟩ := hm
  refine ⟨_, hmem_new hb (ha.congr fun i hi => by rw [if_pos hi]) hk n1 n2 n3 hN key, hbel, fun b hb' => ?_, l1⟩
  rcases hb' with e | e | e | e
  · subst e; exact ⟨l1, hb.lt⟩
  · subst e; exact ⟨l2, ha.lt⟩
  · subst e; exact ⟨l3, hk.lt⟩
  · simp [Value.ownBlock] at e

set_option maxRecDepth 100000 in
set_option maxHeartbeats 1000000 in
theorem heapNew_ok (N : Nat) (x : Int) (hx : x = (N : Int)) (key : Nat → Int) (w : World) (hN : N ≤ 5000) :
    Calls Tryd.prog 17 #[.int .i64 x] w fun e w' => ∃ h, e = .returned (.tuple #[.pointer (some ⟨h, 0, none⟩), .nilIface]) ∧
      ∃ S, Hp w' h N 0 S (fun _ => false) key ∧ Below w.heap.size w w' ∧ (∀ b, S b → w.heap.size ≤ b ∧ b < w'.heap.size) ∧ w.heap.size ≤ h := by
  subst hx
  have hmk := run_make_row' (P := Tryd.prog) 23 3 (.int .i64 0) 8 Tryd.underlying23 infoInt rfl .i64 .i64 N (by omega) (by omega)
  have hN' : (N : Int) ≤ 5000 := by omega
  have hN0 : (0 : Int) ≤ N := by omega
  have S1 := Lib.hid (newMid_start w N w.heap.size (w.heap.size + 1) (.inl ⟨rfl, rfl⟩))
  have S2 := Lib.hid (newMid_start w N (w.heap.size + 1) w.heap.size (.inr ⟨rfl, rfl⟩))
  go_enter Tryd.func17, Tryd.ntmps17
  go_wp2_with fail
  go_region
  all_goals
    go_wp2_with fail
    go_loopw [20] (fun i wr => ∃ k : Nat, k ≤ N ∧ i = .int .i64 k ∧ NewMid w wr (w.heap.size + 2) N k) (fun i _ => N - (intOf i).toNat)
    case atStart => first | exact ⟨0, by omega, rfl, S1.out⟩ | exact ⟨0, by omega, rfl, S2.out⟩
    case round =>
      obtain ⟨k, hk, rfl, hmid⟩ := hrel
      clear S1 S2 hmk
      by_cases hlt : k < N
      · obtain ⟨ga, gk, hb, ha, hkk, n1, n2, n3, l1, l2, l3, hbel⟩ := hmid
        have c1 := hb.cell 1
        simp at c1
        have ca := ha.cell hlt
        rw [if_neg (by omega)] at ca
        have fa := ha.frozen k
        have hlt' : (k : Int) < N := by omega
        have HS := Lib.hid (newMid_step hb ha hkk n1 n2 n3 l1 l2 l3 hbel)
        clear hb ha hkk hbel
        go_wp2_with fail
        go_roundw
        case rel => exact ⟨k + 1, by omega, by go_num, HS.out⟩
        case measure => simp [intOf]; omega
      · have e : k = N := by omega
        subst e
        have HS := Lib.hid (newMid_end hmid hN key)
        clear hmid
        go_wp2_with fail
        go_ret2
        exact ⟨_, rfl, HS.out⟩

theorem heapNew_bad (x : Int) (w : World) (h : x < 0 ∨ 5000 < x) :
    Calls Tryd.prog 17 #[.int .i64 x] w fun e w' => e = .returned (.tuple #[.pointer none, errNo 1]) ∧ w = w' := by
  rcases h with h | h
  · go_enter Tryd.func17, Tryd.ntmps17
    go_wp2
    go_ret2
    exact ⟨rfl, rfl⟩
  · have h0 : ¬ x < 0 := by omega
    go_enter Tryd.func17, Tryd.ntmps17
    go_wp2
    go_ret2
    exact ⟨rfl, rfl⟩

theorem heapLen (h N m : Nat) (S : Nat → Prop) (has : Nat → Bool) (key : Nat → Int) (w : World) (hp : Hp w h N m S has key) :
    Calls Tryd.prog 22 #[.pointer (some ⟨h, 0, none⟩)] w fun e w' => e = .returned (.int .i64 m) ∧ w = w' := by
  obtain ⟨ga, gk, tv, T, at0, ks, hm, hb, ho, hh, hk, hs⟩ := hp
  have c0 := hm.blk.cell 0
  simp at c0
  obtain ⟨A, c, rfl⟩ : ∃ A c, tv = .slice A m c := by
    rcases hm.own.2 with ⟨e, e2⟩ | ⟨g, cap, cur, e, _⟩
    · subst e2; exact ⟨_, _, e⟩
    · exact ⟨_, _, e⟩
  clear hm hb ho hh hk hs
  go_enter Tryd.func22, Tryd.ntmps22
  go_wp2
  go_ret
  exact ⟨rfl, rfl⟩

theorem heapMin_none (h N : Nat) (S : Nat → Prop) (has : Nat → Bool) (key : Nat → Int) (w : World) (hp : Hp w h N 0 S has key) :
    Calls Tryd.prog 21 #[.pointer (some ⟨h, 0, none⟩)] w fun e w' => e = .returned (.tuple #[.int .i64 0, .int .i64 0, errNo 2]) ∧ w = w' := by
  obtain ⟨ga, gk, tv, T, at0, ks, hm, hb, ho, hh, hk, hs⟩ := hp
  have c0 := hm.blk.cell 0
  simp at c0
  obtain ⟨A, c, rfl⟩ : ∃ A c, tv = .slice A 0 c := by
    rcases hm.own.2 with ⟨e, e2⟩ | ⟨g, cap, cur, e, _⟩
    · exact ⟨_, _, e⟩
    · exact ⟨_, _, e⟩
  clear hm hb ho hh hk hs
  go_enter Tryd.func21, Tryd.ntmps21
  go_wp2
  go_ret3
  exact ⟨rfl, rfl⟩

/-- The least one: no other one stands ahead. -/
def IsLeast (N : Nat) (has : Nat → Bool) (key : Nat → Int) (i : Nat) : Prop := i < N ∧ has i = true ∧ ∀ j, j < N → has j = true → ¬ AheadP key j i

set_option maxRecDepth 100000 in
set_option maxHeartbeats 400000 in
theorem heapMin_some (h N m : Nat) (S : Nat → Prop) (has : Nat → Bool) (key : Nat → Int) (w : World) (hp : Hp w h N m S has key) (hm0 : 0 < m) :
    Calls Tryd.prog 21 #[.pointer (some ⟨h, 0, none⟩)] w fun e w' => ∃ i : Nat, e = .returned (.tuple #[.int .i64 i, .int .i64 (key i), .nilIface]) ∧ IsLeast N has key i ∧ ∃ n, w' = w.drewN n := by
  obtain ⟨ga, gk, tv, T, at0, ks, hm, hb, ho, hh, hk, hs⟩ := hp
  have c0 := hm.blk.cell 0
  have c2 := hm.blk.cell 2
  simp at c0 c2
  obtain ⟨gt, cap, htv, -, -⟩ := hm.own.form hm0
  subst htv
  have hlt := hb.lt 0 hm0
  have ct := hm.tree.cell hm0
  have hasT : ∀ p, p < m → has (T p) = true := fun p hp => by
    rw [hh _ (hb.lt p hp), hb.pos p hp]
    exact decide_eq_true (by omega)
  have ek : ks (T 0) = key (T 0) := hk _ hlt (hasT 0 hm0)
  have ck := hm.rk.cell hlt
  rw [ek] at ck
  have HL : Hid (IsLeast N has key (T 0)) := by
    refine ⟨hlt, hasT 0 hm0, fun j hj hhj => ?_⟩
    have h0 : 0 ≤ at0 j := by
      have := hh j hj
      rw [hhj] at this
      exact of_decide_eq_true this.symm
    obtain ⟨p, hp, e1, e2⟩ := hb.inv j hj h0
    have := ho.least p hp
    rw [e2] at this
    unfold AheadP at *
    rw [ek, hk j hj hhj] at this
    exact this
  have hm' : (0 : Int) < m := by omega
  have hm0' : ((m : Int) == 0) = false := by simp; omega
  have hmN : (m == 0) = false := by simp; omega
  have hlt' : ((T 0 : Nat) : Int) < N := by omega
  clear hm hb ho hh hk hs hasT ek
  generalize T 0 = i at *
  go_enter Tryd.func21, Tryd.ntmps21
  go_wp2
  go_quiet (fail)
  go_wp2
  go_ret3
  exact ⟨i, rfl, HL.out, _, rfl⟩

end Go.Proofs.YtdilajieimbdnaaDoor

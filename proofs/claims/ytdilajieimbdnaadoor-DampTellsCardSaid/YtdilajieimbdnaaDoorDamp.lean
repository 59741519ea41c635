/- The walks of package damp. -/
import Derived.Test.YtdilajieimbdnaaDoorMem
import Derived.Deep.QuietTactic
import Derived.BigQuiet
namespace Go.Proofs.YtdilajieimbdnaaDoor
open Go.RowKit
set_option linter.unusedVariables false
attribute [local go_sem high] run_min_pair

abbrev dampCells (half now pen : Int) (held : Bool) : Array Value := #[.int .i64 half, .int .i64 now, .int .i64 pen, .bool held]

/-- The penalty, when so much time has gone by. -/
def penAt (half now pen t : Int) : Int := pen / 2 ^ (min (t / half - now / half) 62).toNat
def heldAt (half now pen t : Int) (held : Bool) : Bool := held && decide (750 ≤ penAt half now pen t)

theorem penAt_lo {half now pen t : Int} (h : 0 ≤ pen) : 0 ≤ penAt half now pen t := Int.ediv_nonneg h (by exact_mod_cast Nat.zero_le _)
theorem penAt_hi {half now pen t : Int} (h : 0 ≤ pen) : penAt half now pen t ≤ pen := Int.ediv_le_self _ h

theorem quo_mono {half now t : Int} (h1 : 1 ≤ half) (h4 : now ≤ t) : 0 ≤ t / half - now / half := by
  have := Int.ediv_le_ediv (show 0 < half by omega) h4
  omega
theorem quo_top {half now t : Int} (h1 : 1 ≤ half) (h3 : 0 ≤ now) (h4 : now ≤ t) (h5 : t ≤ 1099511627776) : t / half - now / half ≤ 1099511627776 := by
  have e1 := Int.ediv_le_self half (show 0 ≤ t by omega)
  have e2 := Int.ediv_nonneg h3 (show 0 ≤ half by omega)
  omega

/-- The damp at block g: what is in its fields; they are in range. -/
structure Damp (w : World) (g : Nat) (half now pen : Int) (held : Bool) : Prop where
  blk : Blk w g 88 (dampCells half now pen held)
  h1 : 1 ≤ half
  h2 : half ≤ 1000
  h3 : 0 ≤ now
  h4 : now ≤ 1099511627776
  h6 : 0 ≤ pen
  h7 : pen ≤ 12000

theorem Damp.below {B : Nat} {w w' : World} {g : Nat} {half now pen : Int} {held : Bool} (h : Damp w g half now pen held) (hb : Below B w w') (hg : g < B) : Damp w' g half now pen held :=
  ⟨h.blk.below hb hg, h.h1, h.h2, h.h3, h.h4, h.h6, h.h7⟩

set_option maxHeartbeats 800000 in
theorem dampPass_ok (g : Nat) (half now pen t : Int) (held : Bool) (w : World) (hd : Damp w g half now pen held) (ht : now ≤ t) (h5 : t ≤ 1099511627776) :
    Calls Tryd.prog 56 #[.pointer (some ⟨g, 0, none⟩), .int .i64 t] w fun e w' => e = .returned .nilIface ∧
      Damp w' g half t (penAt half now pen t) (heldAt half now pen t held) ∧ w.grownBy w' (some g) := by
  obtain ⟨hb, h1, h2, h3, h4, h6, h7⟩ := hd
  have c0 := hb.cell 0
  have c1 := hb.cell 1
  have c2 := hb.cell 2
  have c3 := hb.cell 3
  have f0 := fun i => hb.frozen i
  simp at c0 c1 c2 c3
  have HB := Lib.hid hb
  clear hb
  have d0 := quo_mono h1 ht
  have d1 := quo_top h1 h3 ht h5
  have HP : Hid (0 ≤ penAt half now pen t ∧ penAt half now pen t ≤ 12000) := ⟨penAt_lo h6, Int.le_trans (penAt_hi h6) h7⟩
  go_enter Tryd.func56, Tryd.ntmps56
  go_wp2
  go_quiet (fail)
  go_wp2
  · have hlt : pen / 2 ^ (min (t / half - now / half) 62).toNat < 750 := by assumption
    go_ret
    refine ⟨rfl, ⟨?_, h1, h2, Int.le_trans h3 ht, h5, HP.out.1, HP.out.2⟩, (by repeat (first | (with_reducible exact World.grownBy.refl _ _) | (with_reducible refine only_setCell ?_ (.inl rfl) _) | (with_reducible refine only_drewN ?_ _)))⟩
    have hk := (((HB.out.drewN nq).set_ 1 (.int .i64 t)).set_ 2 (.int .i64 (pen / 2 ^ (min (t / half - now / half) 62).toNat))).set_ 3 (.bool false)
    have e : heldAt half now pen t held = false := by
      unfold heldAt penAt
      rw [decide_eq_false (Int.not_le.2 hlt), Bool.and_false]
    rw [e]
    simpa [dampCells, penAt] using hk
  · have hlt : 750 ≤ pen / 2 ^ (min (t / half - now / half) 62).toNat := by assumption
    go_ret
    refine ⟨rfl, ⟨?_, h1, h2, Int.le_trans h3 ht, h5, HP.out.1, HP.out.2⟩, (by repeat (first | (with_reducible exact World.grownBy.refl _ _) | (with_reducible refine only_setCell ?_ (.inl rfl) _) | (with_reducible refine only_drewN ?_ _)))⟩
    have hk := ((HB.out.drewN nq).set_ 1 (.int .i64 t)).set_ 2 (.int .i64 (pen / 2 ^ (min (t / half - now / half) 62).toNat))
    have e : heldAt half now pen t held = held := by
      unfold heldAt penAt
      rw [decide_eq_true hlt, Bool.and_true]
    rw [e]
    simpa [dampCells, penAt] using hk

def BadTime (now t : Int) : Prop := t < now ∨ 1099511627776 < t
theorem timeOr (now t : Int) : (now ≤ t ∧ t ≤ 1099511627776) ∨ BadTime now t := by unfold BadTime; omega

set_option maxHeartbeats 800000 in
theorem dampPass_bad (g : Nat) (half now pen t : Int) (held : Bool) (w : World) (hd : Damp w g half now pen held) (ht : BadTime now t) :
    Calls Tryd.prog 56 #[.pointer (some ⟨g, 0, none⟩), .int .i64 t] w fun e w' => e = .returned (errNo 1) ∧ w = w' := by
  obtain ⟨hb, h1, h2, h3, h4, h6, h7⟩ := hd
  have c1 := hb.cell 1
  simp at c1
  rcases ht with ht | ht
  · go_enter Tryd.func56, Tryd.ntmps56
    go_wp2
    go_ret
    exact ⟨rfl, rfl⟩
  · by_cases h : t < now
    · omega
    · go_enter Tryd.func56, Tryd.ntmps56
      go_wp2
      go_ret
      exact ⟨rfl, rfl⟩

/-- What a flap makes of a penalty. -/
def flapped (p : Int) : Int := min (p + 1000) 12000

set_option maxHeartbeats 800000 in
theorem dampFlap_ok (g : Nat) (half now pen t : Int) (held : Bool) (w : World) (hd : Damp w g half now pen held) (ht : now ≤ t) (h5 : t ≤ 1099511627776) :
    Calls Tryd.prog 14 #[.pointer (some ⟨g, 0, none⟩), .int .i64 t] w fun e w' => e = .returned .nilIface ∧
      Damp w' g half t (flapped (penAt half now pen t)) (heldAt half now pen t held || decide (2000 < flapped (penAt half now pen t))) ∧ w.grownBy w' (some g) := by
  go_enter Tryd.func14, Tryd.ntmps14
  go_wp2_with fail
  refine (dampPass_ok g half now pen t held _ hd ht h5).mono ?_
  rintro e w' ⟨rfl, hd1, hg1⟩
  clear hd
  obtain ⟨hb, h1, h2, h3, h4, h6, h7⟩ := hd1
  have c2 := hb.cell 2
  have c3 := hb.cell 3
  have f0 := fun i => hb.frozen i
  simp at c2 c3
  have HB := Lib.hid hb
  clear hb
  by_cases hp : 2000 < min (penAt half now pen t + 1000) 12000
  all_goals
    go_wp2
    go_ret
  · refine ⟨rfl, ⟨?_, h1, h2, by omega, h5, by unfold flapped; omega, by unfold flapped; omega⟩, only_trans hg1 (by repeat (first | (with_reducible exact World.grownBy.refl _ _) | (with_reducible refine only_setCell ?_ (.inl rfl) _) | (with_reducible refine only_drewN ?_ _)))⟩
    have hk := ((HB.out).set_ 2 (.int .i64 (min (penAt half now pen t + 1000) 12000))).set_ 3 (.bool true)
    have e : (heldAt half now pen t held || decide (2000 < flapped (penAt half now pen t))) = true := by
      unfold flapped
      rw [decide_eq_true hp, Bool.or_true]
    rw [e]
    simpa [dampCells, flapped] using hk
  · refine ⟨rfl, ⟨?_, h1, h2, by omega, h5, by unfold flapped; omega, by unfold flapped; omega⟩, only_trans hg1 (by repeat (first | (with_reducible exact World.grownBy.refl _ _) | (with_reducible refine only_setCell ?_ (.inl rfl) _) | (with_reducible refine only_drewN ?_ _)))⟩
    have hk := (HB.out).set_ 2 (.int .i64 (min (penAt half now pen t + 1000) 12000))
    have e : (heldAt half now pen t held || decide (2000 < flapped (penAt half now pen t))) = heldAt half now pen t held := by
      unfold flapped
      rw [decide_eq_false (Int.not_lt.2 hp), Bool.or_false]
    rw [e]
    simpa [dampCells, flapped] using hk

set_option maxHeartbeats 800000 in
theorem dampFlap_bad (g : Nat) (half now pen t : Int) (held : Bool) (w : World) (hd : Damp w g half now pen held) (ht : BadTime now t) :
    Calls Tryd.prog 14 #[.pointer (some ⟨g, 0, none⟩), .int .i64 t] w fun e w' => e = .returned (errNo 1) ∧ w = w' := by
  go_enter Tryd.func14, Tryd.ntmps14
  go_wp2_with fail
  refine (dampPass_bad g half now pen t held _ hd ht).mono ?_
  rintro e w' ⟨rfl, rfl⟩
  go_wp2
  go_ret
  exact ⟨rfl, rfl⟩

set_option maxHeartbeats 800000 in
theorem dampAt_ok (g : Nat) (half now pen t : Int) (held : Bool) (w : World) (hd : Damp w g half now pen held) (ht : now ≤ t) (h5 : t ≤ 1099511627776) :
    Calls Tryd.prog 13 #[.pointer (some ⟨g, 0, none⟩), .int .i64 t] w fun e w' => e = .returned (.tuple #[.int .i64 (penAt half now pen t), .bool (heldAt half now pen t held), .nilIface]) ∧
      Damp w' g half t (penAt half now pen t) (heldAt half now pen t held) ∧ w.grownBy w' (some g) := by
  go_enter Tryd.func13, Tryd.ntmps13
  go_wp2_with fail
  refine (dampPass_ok g half now pen t held _ hd ht h5).mono ?_
  rintro e w' ⟨rfl, hd1, hg1⟩
  clear hd
  have hb := hd1.blk
  have c2 := hb.cell 2
  have c3 := hb.cell 3
  have HD := Lib.hid hd1
  clear hb hd1
  simp at c2 c3
  go_wp2
  go_quiet (fail)
  go_wp2
  go_ret3
  exact ⟨rfl, ⟨HD.out.blk.drewN _, HD.out.h1, HD.out.h2, HD.out.h3, HD.out.h4, HD.out.h6, HD.out.h7⟩, only_drewN hg1 _⟩

set_option maxHeartbeats 800000 in
theorem dampAt_bad (g : Nat) (half now pen t : Int) (held : Bool) (w : World) (hd : Damp w g half now pen held) (ht : BadTime now t) :
    Calls Tryd.prog 13 #[.pointer (some ⟨g, 0, none⟩), .int .i64 t] w fun e w' => e = .returned (.tuple #[.int .i64 0, .bool false, errNo 1]) ∧ w = w' := by
  go_enter Tryd.func13, Tryd.ntmps13
  go_wp2_with fail
  refine (dampPass_bad g half now pen t held _ hd ht).mono ?_
  rintro e w' ⟨rfl, rfl⟩
  go_wp2
  go_ret3
  exact ⟨rfl, rfl⟩

set_option maxHeartbeats 800000 in
theorem dampNew_ok (half : Int) (w : World) (h1 : 1 ≤ half) (h2 : half ≤ 1000) :
    Calls Tryd.prog 10 #[.int .i64 half] w fun e w' => e = .returned (.tuple #[.pointer (some ⟨w.heap.size, 0, none⟩), .nilIface]) ∧
      Damp w' w.heap.size half 0 0 false ∧ Below w.heap.size w w' := by
  go_enter Tryd.func10, Tryd.ntmps10
  go_wp2
  go_ret2
  exact ⟨rfl, ⟨Blk.new _ _ _, h1, h2, by omega, by omega, by omega, by omega⟩, (Below.refl _ _).alloc (Nat.le_refl _) _⟩

theorem dampNew_bad (half : Int) (w : World) (h : half < 1 ∨ 1000 < half) :
    Calls Tryd.prog 10 #[.int .i64 half] w fun e w' => e = .returned (.tuple #[.pointer none, errNo 1]) ∧ w = w' := by
  rcases h with h | h
  · go_enter Tryd.func10, Tryd.ntmps10
    go_wp2
    go_ret2
    exact ⟨rfl, rfl⟩
  · have h0 : ¬ half < 1 := by omega
    go_enter Tryd.func10, Tryd.ntmps10
    go_wp2
    go_ret2
    exact ⟨rfl, rfl⟩

end Go.Proofs.YtdilajieimbdnaaDoor

/- The net's small walks: one, near, Dist, Least. -/
import Derived.Test.YtlemmphnmklbeaaLfiMem
namespace Go.Proofs.Ytlemmphnmklbeaa
open Go.RowKit
set_option linter.unusedVariables false

/-- Is it a node? -/
def oneE (n : Nat) (a : Int) : Int := if a < 0 ∨ n ≤ a then 1 else 0

set_option maxRecDepth 100000 in
set_option maxHeartbeats 1000000 in
theorem lfiOne (lab : Nat → List Nat) (A : LAd) (n t : Nat) (s : LS) (a : Int) (w : World) (h : LN w lab A n t s) (h8 : n ≤ 8) :
    Calls Try.prog 23 #[.pointer (some ⟨A.p, 0, none⟩), .int .i64 a] w fun e w' => e = .returned (errV (oneE n a)) ∧ w' = w := by
  obtain ⟨-, -, f2, -⟩ := h.netCell
  have h8' : (n : Int) ≤ 8 := by omega
  by_cases h1 : a < 0
  · have e : oneE n a = 1 := if_pos (by omega)
    rw [e]
    have d1 : decide (a < 0) = true := decide_eq_true h1
    clear h e
    go_enter Try.func23, Try.ntmps23
    go_wp2_with fail
    go_ret
    exact ⟨rfl, rfl⟩
  · have d1 : decide (a < 0) = false := decide_eq_false h1
    obtain ⟨x, rfl⟩ : ∃ x : Nat, a = x := ⟨a.toNat, by omega⟩
    by_cases h2 : n ≤ x
    · have e : oneE n x = 1 := if_pos (by omega)
      rw [e]
      have d2 : decide (n ≤ x) = true := decide_eq_true h2
      clear h e
      go_enter Try.func23, Try.ntmps23
      go_wp2_with fail
      go_ret
      exact ⟨rfl, rfl⟩
    · have e : oneE n x = 0 := if_neg (by omega)
      rw [e]
      have d2 : decide (n ≤ x) = false := decide_eq_false h2
      clear h e
      go_enter Try.func23, Try.ntmps23
      go_wp2_with fail
      go_ret
      exact ⟨rfl, rfl⟩

section
variable {lab : Nat → List Nat} {A : LAd} {n t : Nat} {s : LS} {a b : Int} {w : World}
theorem lfiOne_ok (h : LN w lab A n t s) (h8 : n ≤ 8) (h0 : 0 ≤ a) (h1 : a < n) :
    Calls Try.prog 23 #[.pointer (some ⟨A.p, 0, none⟩), .int .i64 a] w fun e w' => e = .returned .nilIface ∧ w' = w := by
  have := lfiOne lab A n t s a w h h8
  rw [show oneE n a = 0 from if_neg (by omega)] at this
  exact this
theorem lfiOne_bad (h : LN w lab A n t s) (h8 : n ≤ 8) (h0 : a < 0 ∨ n ≤ a) :
    Calls Try.prog 23 #[.pointer (some ⟨A.p, 0, none⟩), .int .i64 a] w fun e w' => e = .returned (errNo 1) ∧ w' = w := by
  have := lfiOne lab A n t s a w h h8
  rw [show oneE n a = 1 from if_pos h0] at this
  exact this
end


set_option maxRecDepth 100000 in
set_option maxHeartbeats 1000000 in
theorem lfiNear (lab : Nat → List Nat) (A : LAd) (n t : Nat) (s : LS) (a b : Int) (w : World) (h : LN w lab A n t s) (h8 : n ≤ 8) :
    Calls Try.prog 21 #[.pointer (some ⟨A.p, 0, none⟩), .int .i64 a, .int .i64 b] w fun e w' => e = .returned (errV (nearE n s.K a b)) ∧ w' = w := by
  have HA := Lib.hid h
  obtain ⟨-, f1, -, -⟩ := h.netCell
  have h8' : (n : Int) ≤ 8 := by omega
  by_cases h1 : a < 0 ∨ n ≤ a
  · have e : nearE n s.K a b = 1 := if_pos (by omega)
    rw [e]
    have HC := Lib.hid (lfiOne_bad (w := w) h h8 h1)
    clear h f1 h1 e
    go_enter Try.func21, Try.ntmps21
    go_wp2_with fail
    refine HC.out.mono ?_
    rintro e w1 ⟨rfl, h1⟩
    subst w1
    go_wp2_with fail
    go_ret
    exact ⟨rfl, rfl⟩
  · obtain ⟨x, rfl⟩ : ∃ x : Nat, a = x := ⟨a.toNat, by omega⟩
    have HC := Lib.hid (lfiOne_ok (w := w) (a := x) h h8 (by omega) (by omega))
    by_cases h2 : b < 0 ∨ n ≤ b
    · have e : nearE n s.K x b = 1 := if_pos (by omega)
      rw [e]
      have HC2 := Lib.hid (lfiOne_bad (w := w) h h8 h2)
      clear h f1 h1 h2 e
      go_enter Try.func21, Try.ntmps21
      go_wp2_with fail
      refine HC.out.mono ?_
      rintro e w1 ⟨rfl, h1⟩
      subst w1
      go_wp2_with fail
      refine HC2.out.mono ?_
      rintro e w1 ⟨rfl, h1⟩
      subst w1
      go_wp2_with fail
      go_ret
      exact ⟨rfl, rfl⟩
    · obtain ⟨y, rfl⟩ : ∃ y : Nat, b = y := ⟨b.toNat, by omega⟩
      have HC2 := Lib.hid (lfiOne_ok (w := w) (a := y) h h8 (by omega) (by omega))
      have hx : x < n := by omega
      have hy : y < n := by omega
      have hx' : (x : Int) < n := by omega
      have hy' : (y : Int) < n := by omega
      have r1 := h.cst.cell hx
      have r2 := (h.cstr x hx).cell hy
      obtain ⟨k, hk⟩ : ∃ k, s.K x y = k := ⟨_, rfl⟩
      rw [hk] at r2
      have HKK := Lib.hid hk
      clear h hk
      by_cases h5 : x = y
      · have e : nearE n s.K x y = 2 := by
          unfold nearE
          rw [if_neg (by omega), if_pos (.inl (by omega))]
        rw [e]
        have d5 : ((x : Int) == (y : Int)) = true := by simp [h5]
        have d5' : (x == y) = true := by simp [h5]
        clear h1 h2 f1 r1 r2 h5 e
        go_enter Try.func21, Try.ntmps21
        go_wp2_with fail
        refine HC.out.mono ?_
        rintro e w1 ⟨rfl, h1⟩
        subst w1
        go_wp2_with fail
        refine HC2.out.mono ?_
        rintro e w1 ⟨rfl, h1⟩
        subst w1
        go_wp2_with fail
        go_ret
        exact ⟨rfl, rfl⟩
      · have d5 : ((x : Int) == (y : Int)) = false := beq_false_of_ne (by omega)
        have d5' : (x == y) = false := beq_false_of_ne h5
        have en : nearE n s.K x y = if k = 16 then 2 else 0 := by
          unfold nearE
          have e1 : ((x : Int)).toNat = x := by omega
          have e2 : ((y : Int)).toNat = y := by omega
          rw [if_neg (by omega), e1, e2, HKK.out]
          by_cases h16 : k = 16
          · rw [if_pos (.inr h16), if_pos h16]
          · rw [if_neg (by omega), if_neg h16]
        rw [en]
        clear en h1 h2
        by_cases h16 : k = 16
        · subst h16
          go_enter Try.func21, Try.ntmps21
          go_wp2_with fail
          refine HC.out.mono ?_
          rintro e w1 ⟨rfl, h1⟩
          subst w1
          go_wp2_with fail
          refine HC2.out.mono ?_
          rintro e w1 ⟨rfl, h1⟩
          subst w1
          go_wp2_with fail
          go_ret
          exact ⟨rfl, rfl⟩
        · have d6 : (k == 16) = false := beq_false_of_ne h16
          rw [if_neg h16]
          go_enter Try.func21, Try.ntmps21
          go_wp2_with fail
          refine HC.out.mono ?_
          rintro e w1 ⟨rfl, h1⟩
          subst w1
          go_wp2_with fail
          refine HC2.out.mono ?_
          rintro e w1 ⟨rfl, h1⟩
          subst w1
          go_wp2_with fail
          go_ret
          exact ⟨rfl, rfl⟩

section
variable {lab : Nat → List Nat} {A : LAd} {n t : Nat} {s : LS} {a b : Int} {w : World}
theorem lfiNear_ok (h : LN w lab A n t s) (h8 : n ≤ 8) (hn : nearE n s.K a b = 0) :
    Calls Try.prog 21 #[.pointer (some ⟨A.p, 0, none⟩), .int .i64 a, .int .i64 b] w fun e w' => e = .returned .nilIface ∧ w' = w := by
  have := lfiNear lab A n t s a b w h h8
  rw [hn] at this
  exact this
theorem lfiNear_bad (h : LN w lab A n t s) (h8 : n ≤ 8) {k : Int} (hn : nearE n s.K a b = k) (hk : k ≠ 0) :
    Calls Try.prog 21 #[.pointer (some ⟨A.p, 0, none⟩), .int .i64 a, .int .i64 b] w fun e w' => e = .returned (errNo k) ∧ w' = w := by
  have := lfiNear lab A n t s a b w h h8
  rw [hn] at this
  unfold errV at this
  rw [if_neg hk] at this
  exact this
end


set_option maxRecDepth 100000 in
set_option maxHeartbeats 1000000 in
theorem lfiDist (lab : Nat → List Nat) (A : LAd) (n t : Nat) (s : LS) (i : Int) (w : World) (h : LN w lab A n t s) (h8 : n ≤ 8) :
    Calls Try.prog 12 #[.pointer (some ⟨A.p, 0, none⟩), .int .i64 i] w fun e w' => e = .returned (if i < 0 ∨ n ≤ i then .tuple #[.int .i64 0, errNo 1] else .tuple #[.int .i64 (s.f i.toNat), .nilIface]) ∧ w' = w := by
  obtain ⟨-, -, f2, -⟩ := h.netCell
  have h8' : (n : Int) ≤ 8 := by omega
  by_cases h1 : i < 0 ∨ n ≤ i
  · rw [if_pos h1]
    have HC := Lib.hid (lfiOne_bad (w := w) h h8 h1)
    clear h h1
    go_enter Try.func12, Try.ntmps12
    go_wp2_with fail
    refine HC.out.mono ?_
    rintro e w1 ⟨rfl, h1⟩
    subst w1
    go_wp2_with fail
    go_ret2
    exact ⟨rfl, rfl⟩
  · obtain ⟨x, rfl⟩ : ∃ x : Nat, i = x := ⟨i.toNat, by omega⟩
    rw [if_neg h1, show ((x : Int)).toNat = x by omega]
    have hx : x < n := by omega
    have hx' : (x : Int) < n := by omega
    have HC := Lib.hid (lfiOne_ok (w := w) (a := x) h h8 (by omega) (by omega))
    have r1 := h.nod.cell hx
    obtain ⟨a0, a1, -⟩ := h.nodeCell hx
    clear h h1
    go_enter Try.func12, Try.ntmps12
    go_wp2_with fail
    refine HC.out.mono ?_
    rintro e w1 ⟨rfl, h1⟩
    subst w1
    go_wp2_with fail
    go_ret2
    exact ⟨rfl, rfl⟩

set_option maxRecDepth 100000 in
set_option maxHeartbeats 1000000 in
theorem lfiLeast (lab : Nat → List Nat) (A : LAd) (n t : Nat) (s : LS) (i : Int) (w : World) (h : LN w lab A n t s) (h8 : n ≤ 8) :
    Calls Try.prog 13 #[.pointer (some ⟨A.p, 0, none⟩), .int .i64 i] w fun e w' => e = .returned (if i < 0 ∨ n ≤ i then .tuple #[.int .i64 0, errNo 1] else .tuple #[.int .i64 (s.e i.toNat), .nilIface]) ∧ w' = w := by
  obtain ⟨-, -, f2, -⟩ := h.netCell
  have h8' : (n : Int) ≤ 8 := by omega
  by_cases h1 : i < 0 ∨ n ≤ i
  · rw [if_pos h1]
    have HC := Lib.hid (lfiOne_bad (w := w) h h8 h1)
    clear h h1
    go_enter Try.func13, Try.ntmps13
    go_wp2_with fail
    refine HC.out.mono ?_
    rintro e w1 ⟨rfl, h1⟩
    subst w1
    go_wp2_with fail
    go_ret2
    exact ⟨rfl, rfl⟩
  · obtain ⟨x, rfl⟩ : ∃ x : Nat, i = x := ⟨i.toNat, by omega⟩
    rw [if_neg h1, show ((x : Int)).toNat = x by omega]
    have hx : x < n := by omega
    have hx' : (x : Int) < n := by omega
    have HC := Lib.hid (lfiOne_ok (w := w) (a := x) h h8 (by omega) (by omega))
    have r1 := h.nod.cell hx
    obtain ⟨a0, a1, -⟩ := h.nodeCell hx
    clear h h1
    go_enter Try.func13, Try.ntmps13
    go_wp2_with fail
    refine HC.out.mono ?_
    rintro e w1 ⟨rfl, h1⟩
    subst w1
    go_wp2_with fail
    go_ret2
    exact ⟨rfl, rfl⟩

end Go.Proofs.Ytlemmphnmklbeaa

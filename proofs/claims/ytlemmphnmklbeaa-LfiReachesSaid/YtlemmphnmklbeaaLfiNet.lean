/- What a net's owner sees of what it does; the fact of a net. -/
import Derived.Test.YtlemmphnmklbeaaLfiCost
import Derived.Test.YtlemmphnmklbeaaLfiSend
import Derived.Test.YtlemmphnmklbeaaLfiTake
import Derived.Test.YtlemmphnmklbeaaLfiNew
import Derived.Test.YtlemmphnmklbeaaBellFixed
import Derived.Test.YtlemmphnmklbeaaInts
namespace Go.Proofs.Ytlemmphnmklbeaa
open Go.RowKit
set_option linter.unusedVariables false

/-- The net is there, and its state is one of these; blocks of this kind are none of its, and are as they were. -/
def NetP (wx : World) (fr : Nat → Prop) (p0 n t C : Nat) (wr : World) (F : LS → Prop) : Prop :=
  ∃ lab A s, A.p = p0 ∧ LN wr lab A n t s ∧ LInv n t s ∧ s.c ≤ C ∧ (∀ b, fr b → lab b = [] ∧ b < wx.heap.size) ∧ Touch (fun b => ¬ fr b) wx wr ∧ F s

section
variable {wx w w' : World} {fr : Nat → Prop} {p0 n t C : Nat} {F G : LS → Prop}
theorem NetP.imp (h : NetP wx fr p0 n t C w F) (hi : ∀ s, LInv n t s → F s → G s) : NetP wx fr p0 n t C w G := by
  obtain ⟨lab, A, s, h1, h2, h3, h4, h5, h6, h7⟩ := h
  exact ⟨lab, A, s, h1, h2, h3, h4, h5, h6, hi s h3 h7⟩
theorem NetP.touch (h : NetP wx fr p0 n t C w F) : Touch (fun b => ¬ fr b) wx w := by
  obtain ⟨lab, A, s, h1, h2, h3, h4, h5, h6, h7⟩ := h
  exact h6
theorem NetP.bel {B : Nat} (h : NetP wx fr p0 n t C w F) (hB : ∀ b, b < B → fr b) : Below B wx w := by
  obtain ⟨lab, A, s, h1, h2, h3, h4, h5, h6, h7⟩ := h
  exact ⟨h6.os, h6.tape, h6.output, h6.size, fun k hk => h6.block k (h5 k (hB k hk)).2 fun hn => hn (hB k hk)⟩
theorem NetP.drewN (h : NetP wx fr p0 n t C w F) (k : Nat) : NetP wx fr p0 n t C (w.drewN k) F := by
  obtain ⟨lab, A, s, h1, h2, h3, h4, h5, h6, h7⟩ := h
  exact ⟨lab, A, s, h1, h2.drewN k, h3, h4, h5, h6.drewN k, h7⟩
theorem NetP.below (h : NetP wx fr p0 n t C w F) (hb : Below w.heap.size w w') : NetP wx fr p0 n t C w' F := by
  obtain ⟨lab, A, s, h1, h2, h3, h4, h5, h6, h7⟩ := h
  exact ⟨lab, A, s, h1, h2.below hb, h3, h4, h5, h6.trans' (Touch.of_below (S := fun _ => False) hb) (fun i hi => hi.elim), h7⟩
/-- From here on. -/
theorem NetP.here (h : NetP wx fr p0 n t C w F) : NetP w fr p0 n t C w F := by
  obtain ⟨lab, A, s, h1, h2, h3, h4, h5, h6, h7⟩ := h
  exact ⟨lab, A, s, h1, h2, h3, h4, fun b hb => ⟨(h5 b hb).1, Nat.lt_of_lt_of_le (h5 b hb).2 h6.size⟩, Touch.refl _ _, h7⟩
theorem NetP.of {lab : Nat → List Nat} {A : LAd} {s : LS} (h : LN w lab A n t s) (hI : LInv n t s) (hc : s.c ≤ C) (hp : A.p = p0) (hl : ∀ b, fr b → lab b = []) (hlt : ∀ b, fr b → b < w.heap.size) (hF : F s) : NetP w fr p0 n t C w F :=
  ⟨lab, A, s, hp, h, hI, hc, fun b hb => ⟨hl b hb, hlt b hb⟩, Touch.refl _ _, hF⟩

theorem touch_af {lab lab' : Nat → List Nat} (h6 : Touch (fun b => ¬ fr b) wx w) (h5 : ∀ b, fr b → lab b = [] ∧ b < wx.heap.size) (k : AF lab w lab' w') : (∀ b, fr b → lab' b = [] ∧ b < wx.heap.size) ∧ Touch (fun b => ¬ fr b) wx w' :=
  ⟨fun b hb => ⟨k.free (Nat.lt_of_lt_of_le (h5 b hb).2 h6.size) (h5 b hb).1, (h5 b hb).2⟩, ⟨k.touch.os.trans h6.os, k.touch.tape.trans h6.tape, k.touch.output.trans h6.output, Nat.le_trans h6.size k.touch.size, fun b hb hn =>
    (k.block (Nat.lt_of_lt_of_le hb h6.size) (h5 b (Classical.not_not.1 hn)).1).trans (h6.block b hb hn)⟩⟩

theorem NetP.send (h : NetP wx fr p0 n t C w F) (h8 : n ≤ 8) (hC : C < maxLen) (a b : Int) (hFG : ∀ s, LInv n t s → F s → G (s.send n a b)) :
    Calls Try.prog 9 #[.pointer (some ⟨p0, 0, none⟩), .int .i64 a, .int .i64 b] w fun e w' => ∃ v, e = .returned v ∧ NetP wx fr p0 n t (C + 1) w' G := by
  obtain ⟨lab, A, s, rfl, h2, h3, h4, h5, h6, h7⟩ := h
  refine (lfiSend lab A n t s a b w h2 h8 (by omega)).mono ?_
  rintro e w' ⟨he, lab', A', k1, k2, k3⟩
  obtain ⟨k4, k5⟩ := touch_af h6 h5 k3
  exact ⟨_, he, lab', A', _, k1, k2, h3.send a b, by
    have := act_c (n := n) (t := t) s 0 a b 0
    rw [show s.act n t 0 a b 0 = s.send n a b from if_pos rfl] at this
    omega, k4, k5, hFG s h3 h7⟩
theorem NetP.take (h : NetP wx fr p0 n t C w F) (h8 : n ≤ 8) (hC : C < maxLen) (a b : Int) (hFG : ∀ s, LInv n t s → F s → G (s.take n t a b)) :
    Calls Try.prog 10 #[.pointer (some ⟨p0, 0, none⟩), .int .i64 a, .int .i64 b] w fun e w' => ∃ v, e = .returned v ∧ NetP wx fr p0 n t (C + 1) w' G := by
  obtain ⟨lab, A, s, rfl, h2, h3, h4, h5, h6, h7⟩ := h
  refine (lfiTake lab A n t s a b w h2 h8 h3 (by omega)).mono ?_
  rintro e w' ⟨he, A', k1, k2, k3⟩
  obtain ⟨k4, k5⟩ := touch_af h6 h5 k3
  exact ⟨_, he, lab, A', _, k1, k2, h3.take a b, by
    have := act_c (n := n) (t := t) s 1 a b 0
    rw [show s.act n t 1 a b 0 = s.take n t a b from by unfold LS.act; rw [if_neg (by omega), if_pos rfl]] at this
    omega, k4, k5, hFG s h3 h7⟩
theorem NetP.cost (h : NetP wx fr p0 n t C w F) (h8 : n ≤ 8) (a b c : Int) (hFG : ∀ s, LInv n t s → F s → G (s.cost n t a b c)) :
    Calls Try.prog 11 #[.pointer (some ⟨p0, 0, none⟩), .int .i64 a, .int .i64 b, .int .i64 c] w fun e w' => ∃ v, e = .returned v ∧ NetP wx fr p0 n t (C + 1) w' G := by
  obtain ⟨lab, A, s, rfl, h2, h3, h4, h5, h6, h7⟩ := h
  refine (lfiCost lab A n t s a b c w h2 h8 h3).mono ?_
  rintro e w' ⟨he, k2, k3⟩
  obtain ⟨k4, k5⟩ := touch_af h6 h5 k3
  exact ⟨_, he, lab, A, _, rfl, k2, h3.cost' a b c, by
    have := act_c (n := n) (t := t) s 2 a b c
    rw [show s.act n t 2 a b c = s.cost n t a b c from by unfold LS.act; rw [if_neg (by omega), if_neg (by omega)]] at this
    omega, k4, k5, hFG s h3 h7⟩
end

section
variable {w : World} {lab : Nat → List Nat} {A : LAd} {n t : Nat} {s : LS}
theorem lfiDist_at (h : LN w lab A n t s) (h8 : n ≤ 8) (i : Nat) (z : Int) (hz : z = (i : Int)) (hi : i < n) :
    Calls Try.prog 12 #[.pointer (some ⟨A.p, 0, none⟩), .int .i64 z] w fun e w' => e = .returned (.tuple #[.int .i64 (s.f i), .nilIface]) ∧ w' = w := by
  subst hz
  have := lfiDist lab A n t s i w h h8
  rw [if_neg (by omega), show ((i : Int)).toNat = i by omega] at this
  exact this
theorem lfiLeast_at (h : LN w lab A n t s) (h8 : n ≤ 8) (i : Nat) (z : Int) (hz : z = (i : Int)) (hi : i < n) :
    Calls Try.prog 13 #[.pointer (some ⟨A.p, 0, none⟩), .int .i64 z] w fun e w' => e = .returned (.tuple #[.int .i64 (s.e i), .nilIface]) ∧ w' = w := by
  subst hz
  have := lfiLeast lab A n t s i w h h8
  rw [if_neg (by omega), show ((i : Int)).toNat = i by omega] at this
  exact this
end

/-- The net of the fact. -/
abbrev freeK : Nat → Nat → Int := costF 1 (fun _ => 0) (fun _ => 1) (fun _ => 3)
theorem free_e1 : (LS.new 0 freeK).sendE 2 0 1 = 0 := by decide
theorem free_e2 : ((LS.new 0 freeK).send 2 0 1).takeE 2 0 1 = 0 := by decide
theorem free_e3 : (((LS.new 0 freeK).send 2 0 1).take 2 0 0 1).nexts 2 0 1 = [0] := by decide

set_option maxRecDepth 100000 in
set_option maxHeartbeats 1000000 in
theorem free_walk (w : World) : Calls Try.prog 6 #[] w fun e w' => e = .returned (.bool true) ∧ Below w.heap.size w w' := by
  go_enter Try.func6, Try.ntmps6
  go_wp2_with fail
  have hcall := lfiNew_ok 2 2 rfl (some ⟨w.heap.size, 0, none⟩) 1 1 0 0 rfl (fun _ => 0) (fun _ => 1) (fun _ => 3) _ (lnk_lit w) (by omega) good_lit (by omega)
  refine hcall.mono ?_
  clear hcall
  rintro e w1 ⟨lab, A, rfl, hA, hlow, hb⟩
  have HA := Lib.hid hA
  have HI : Hid (LInv 2 0 (LS.new 0 freeK)) := LInv.new (cost_m right_lit)
  have HB := Lib.hid ((((Below.refl w.heap.size w).alloc (Nat.le_refl _) _).trans (hb.mono (by simp))))
  have HLO : Hid (∀ b, b < w.heap.size → lab b = []) := fun b hb' => hlow b (by simp; omega)
  clear hA hb hlow
  go_wp2_with fail
  have hcall := lfiSend lab A 2 0 _ 0 1 w1 HA.out (by omega) (by show 0 < maxLen; unfold maxLen; omega)
  rw [free_e1, errV_zero] at hcall
  refine hcall.mono ?_
  clear hcall
  rintro e w2 ⟨rfl, lab2, A2, hp2, hA2, hF2⟩
  obtain ⟨hb2, hl2⟩ := hF2.below HB.out.size HLO.out
  have HA2 := Lib.hid hA2
  have HI2 := Lib.hid (HI.out.send (0 : Int) 1)
  have HB2 := Lib.hid (HB.out.trans hb2)
  have HLO2 := Lib.hid hl2
  rw [← hp2]
  clear hA2 hF2 hb2 hl2 HA HI HB HLO hp2
  go_wp2_with fail
  have hcall := lfiTake lab2 A2 2 0 _ 0 1 w2 HA2.out (by omega) HI2.out (by
    have := act_c (n := 2) (t := 0) (LS.new 0 freeK) 0 0 1 0
    rw [show (LS.new 0 freeK).act 2 0 0 0 1 0 = (LS.new 0 freeK).send 2 0 1 from if_pos rfl] at this
    exact Nat.lt_of_le_of_lt this (by show 1 < maxLen; unfold maxLen; omega))
  rw [free_e2, errV_zero] at hcall
  refine hcall.mono ?_
  clear hcall
  rintro e w3 ⟨rfl, A3, hp3, hA3, hF3⟩
  obtain ⟨hb3, hl3⟩ := hF3.below HB2.out.size HLO2.out
  have HA3 := Lib.hid hA3
  have HB3 := Lib.hid (HB2.out.trans hb3)
  rw [← hp3]
  clear hA3 hF3 hb3 hl3 HA2 HI2 HB2 HLO2 hp3
  go_wp2_with fail
  have hcall := lfiNexts lab2 A3 2 0 _ 1 1 rfl w3 HA3.out (by omega) (by omega)
  rw [free_e3] at hcall
  refine hcall.mono ?_
  clear hcall
  rintro e w4 ⟨v, rfl, hv, hb4⟩
  obtain ⟨Av, cv, rfl, hvec⟩ := hv.vec
  have HV := Lib.hid hvec
  have HB4 := Lib.hid (keep HB3.out hb4)
  clear hv hvec hb4
  go_wp2_with fail
  have hcall := ints_walk Av (some ⟨w4.heap.size, 0, none⟩) 1 1 cv 1 (atL [0]) (fun _ => 0) (w4.alloc (.cells #[.int .i64 0] 3)) (HV.out.keep ((Below.refl _ _).alloc (Nat.le_refl _) (.cells #[.int .i64 0] 3)))
    (fun j hj => ⟨_, rfl, (Blk.new w4 3 #[.int .i64 0]).lt, by
      obtain rfl : j = 0 := by omega
      exact (Blk.new w4 3 #[.int .i64 0]).cell 0⟩) (by omega) (by omega) true ⟨fun _ => ⟨rfl, fun i hi => by
        obtain rfl : i = 0 := by omega
        rfl⟩, fun _ => rfl⟩
  refine hcall.mono ?_
  clear hcall
  rintro e w5 ⟨rfl, k5, rfl⟩
  go_wp2_with fail
  go_ret
  exact ⟨rfl, below_drewN (HB4.out.alloc HB4.out.size _) _⟩

end Go.Proofs.Ytlemmphnmklbeaa

/- The walks of bell.Start, bell.Round. -/
import Derived.Test.YtlemmphnmklbeaaBellMath
import Derived.Test.YtlemmphnmklbeaaComm
import Derived.Test.YtlemmphnmklbeaaRepeat
import Derived.Test.YtlemmphnmklbeaaDistC
import Derived.Test.YtlemmphnmklbeaaTail
namespace Go.Proofs.Ytlemmphnmklbeaa
open Go.RowKit
set_option linter.unusedVariables false

set_option maxRecDepth 100000 in
set_option maxHeartbeats 1000000 in
theorem bellStart_bad (x y : Int) (w : World) (h : (x < 1 ∨ 8 < x) ∨ (1 ≤ x ∧ x ≤ 8 ∧ (y < 0 ∨ x ≤ y))) :
    Calls Try.prog 27 #[.int .i64 x, .int .i64 y] w fun e w' => e = .returned (.tuple #[.slice none 0 0, errNo 1]) ∧ Below w.heap.size w w' := by
  rcases h with (h | h) | ⟨h1, h8, h | h⟩
  · go_enter Try.func27, Try.ntmps27
    go_wp2_with fail
    go_ret2
    exact ⟨rfl, Below.refl _ _⟩
  · go_enter Try.func27, Try.ntmps27
    go_wp2_with fail
    go_ret2
    exact ⟨rfl, Below.refl _ _⟩
  · go_enter Try.func27, Try.ntmps27
    go_wp2_with fail
    go_ret2
    exact ⟨rfl, Below.refl _ _⟩
  · have h0 : 0 ≤ y := by omega
    go_enter Try.func27, Try.ntmps27
    go_wp2_with fail
    go_ret2
    exact ⟨rfl, Below.refl _ _⟩

set_option maxRecDepth 100000 in
set_option maxHeartbeats 1000000 in
theorem bellStart_ok (n t : Nat) (x y : Int) (hx : x = (n : Int)) (hy : y = (t : Int)) (w : World) (h1 : 1 ≤ n) (h8 : n ≤ 8) (ht : t < n) :
    Calls Try.prog 27 #[.int .i64 x, .int .i64 y] w fun e w' => ∃ g, e = .returned (.tuple #[.slice (some ⟨g, 0, none⟩) n n, .nilIface]) ∧ w.heap.size ≤ g ∧ RowP w' g 3 n (fun i => .int .i64 (startF t i)) ∧ Below w.heap.size w w' := by
  subst hx
  subst hy
  have h1' : (1 : Int) ≤ n := by omega
  have h8' : (n : Int) ≤ 8 := by omega
  have ht' : (t : Int) < n := by omega
  go_enter Try.func27, Try.ntmps27
  go_wp2_with fail
  have hcall := repeat_ints w.heap.size n n 16 (w.alloc (.cells #[.int .i64 16] 3)) rfl h1 h8 (by simp)
  refine hcall.mono ?_
  clear hcall
  rintro e w1 ⟨rfl, hblk, hb1⟩
  have hs : (w.alloc (.cells #[Value.int .i64 16] 3)).heap.size = w.heap.size + 1 := by simp
  rw [hs] at hblk hb1 ⊢
  have hc1 : w1.cell? ⟨w.heap.size + 1, t, none⟩ = some (.int .i64 16) := by rw [hblk.cell]; simp [ht]
  have hz1 : w1.frozen? ⟨w.heap.size + 1, t, none⟩ = false := hblk.frozen t
  have HR : Hid (RowP (w1.setCell ⟨w.heap.size + 1, t, none⟩ (.int .i64 0)) (w.heap.size + 1) 3 n (fun i => .int .i64 (startF t i))) := by
    have h1 : RowP w1 (w.heap.size + 1) 3 n (fun _ => .int .i64 16) := ⟨_, hblk, by simp, fun j hj => by simp [hj]⟩
    refine (h1.set t (.int .i64 0)).congr fun j hj => ?_
    unfold upd startF
    by_cases e : j = t
    · subst e; simp
    · rw [if_neg e, if_neg e]
  have HB1 : Hid (Below w.heap.size w (w1.setCell ⟨w.heap.size + 1, t, none⟩ (.int .i64 0))) :=
    ((Below.alloc (Below.refl _ _) (Nat.le_refl _) _).trans (hb1.mono (by omega))).setCell (by show w.heap.size ≤ w.heap.size + 1; omega) _
  clear hblk hb1 hs
  go_wp2_with fail
  go_ret2
  exact ⟨_, rfl, by omega, HR.out, HB1.out⟩

theorem upd_val (f : Nat → Int) (i j : Nat) (x : Int) : upd (fun k => Value.int .i64 (f k)) i (.int .i64 x) j = .int .i64 (upd f i x j) := by
  unfold upd
  by_cases h : j = i
  · simp only [if_pos h]
  · simp only [if_neg h]

attribute [local go_sem high] run_min_pair

set_option maxRecDepth 100000 in
set_option maxHeartbeats 2000000 in
theorem bellRound_ok (n t : Nat) (x y : Int) (hx : x = (n : Int)) (hy : y = (t : Int)) (A D : Option Addr) (m cp cd k : Nat) (hk : k = n) (a b c d : Nat → Int) (w : World) (hl : Lnk w A m a b c) (hd : Vec w D n d) (hm : m ≤ 9223372036854775807) (hg : GoodG x m a b c) (ht : t < n) (hr : RangedV n d) :
    Calls Try.prog 28 #[.int .i64 x, .slice A m cp, .int .i64 y, .slice D k cd] w fun e w' => ∃ g, e = .returned (.tuple #[.slice (some ⟨g, 0, none⟩) n n, .nilIface]) ∧ w.heap.size ≤ g ∧
      RowP w' g 3 n (fun i => .int .i64 (roundTo t a b c d m i)) ∧ Below w.heap.size w w' := by
  subst hk
  have h1 : 1 ≤ k := by have := hg.1; omega
  have h8 : k ≤ 8 := by have := hg.2.1; omega
  have hR : Right k m a b c := by
    have := hg.2.2
    rw [hx] at this
    simpa using this
  have HL := Lib.hid hl
  have HD := Lib.hid hd
  have HG := Lib.hid hg
  have HR := Lib.hid hr
  have HRG := Lib.hid hR
  clear hl hd hg hr hR
  have h1' : (1 : Int) ≤ k := by omega
  have h8' : (k : Int) ≤ 8 := by omega
  subst hx
  subst hy
  go_enter Try.func28, Try.ntmps28
  go_wp2_with fail
  refine (graphCheck_good k A m cp a b c w HL.out hm HG.out).mono ?_
  rintro e w1 ⟨rfl, hb1⟩
  have HB1 := Lib.hid hb1
  clear hb1
  go_wp2_with fail
  have hcall := bellStart_ok k t k t rfl rfl w1 h1 h8 ht
  refine hcall.mono ?_
  clear hcall
  rintro e w2 ⟨g, rfl, hgb, hrow, hb2⟩
  have HRW := Lib.hid hrow
  have HB2 := Lib.hid (keep HB1.out hb2)
  have HGB : Hid (w.heap.size ≤ g) := Nat.le_trans HB1.out.size hgb
  clear hrow hb2 hgb HB1
  go_wp2_with fail
  go_loopw [40] (fun i wr => ∃ r : Nat, r ≤ k ∧ i = .int .i64 r ∧ wr = w2) (fun i _ => k - (intOf i).toNat)
  case atStart => exact ⟨0, by omega, rfl, rfl⟩
  case round =>
    obtain ⟨r, hr, rfl, rfl⟩ := hrel
    by_cases hlt : r < k
    · have hlt' : (r : Int) < k := by omega
      obtain ⟨dd, rfl, hdl, hdc⟩ := HD.out r hlt
      have hdc := (HB2.out.cell (by rw [block_of_add]; exact hdl)).trans hdc
      clear hdl
      go_wp2_with fail
      refine (distCheck_ok (d r) _ (HR.out r hlt).1 (HR.out r hlt).2).mono ?_
      rintro e w3 ⟨rfl, rfl⟩
      go_wp2_with fail
      go_roundw
      case rel => exact ⟨r + 1, by omega, by go_num, trivial⟩
      case measure => simp [intOf]; omega
    · have er : r = k := by omega
      subst er
      go_wp2_with fail
      go_loopw [52] (fun i wr => ∃ q : Nat, q ≤ m ∧ i = .int .i64 q ∧ RowP wr g 3 r (fun i => .int .i64 (roundTo t a b c d q i)) ∧ Below w.heap.size w wr) (fun i _ => m - (intOf i).toNat)
      case atStart => exact ⟨0, by omega, rfl, HRW.out, HB2.out⟩
      case round =>
        obtain ⟨q, hq, rfl, hrow, hb⟩ := hrel
        clear HRW HB2
        by_cases hlt : q < m
        · have hlt' : (q : Int) < m := by omega
          obtain ⟨ad, rfl, hc0, hc1, hc2⟩ := HL.out.cells hb q hlt
          obtain ⟨⟨ha0, ha1, hb0, hb1, hk0, hk1⟩, hne, -⟩ := HRG.out q hlt
          obtain ⟨p, hp⟩ : ∃ p : Nat, a q = (p : Int) := ⟨(a q).toNat, by omega⟩
          obtain ⟨s, hs⟩ : ∃ s : Nat, b q = (s : Int) := ⟨(b q).toNat, by omega⟩
          rw [hp] at hc0 ha0 ha1 hne
          rw [hs] at hc1 hb0 hb1 hne
          have hpn : p < r := by omega
          have hsn : s < r := by omega
          have hps : p ≠ s := by omega
          have hap : nA a q = p := by unfold nA; omega
          have hbs : nA b q = s := by unfold nA; omega
          obtain ⟨dd, rfl, hdl, hdp⟩ := HD.out p hpn
          obtain ⟨dd', e, _, hds⟩ := HD.out s hsn
          injection e with e
          subst e
          obtain ⟨lc, hlc⟩ : ∃ lc : Array Value, lc = #[.int .i64 p, .int .i64 s, .int .i64 (c q)] := ⟨_, rfl⟩
          have hdp1 : (wr.alloc (.cells #[.int .i64 p, .int .i64 s, .int .i64 (c q)] 44)).cell? (dd.add p) = some (.int .i64 (d p)) := ((hb.alloc hb.size _).cell (by rw [block_of_add]; exact hdl)).trans hdp
          have hds1 : (wr.alloc (.cells #[.int .i64 p, .int .i64 s, .int .i64 (c q)] 44)).cell? (dd.add s) = some (.int .i64 (d s)) := ((hb.alloc hb.size _).cell (by rw [block_of_add]; exact hdl)).trans hds
          have hrow1 := hrow.alloc (.cells #[.int .i64 p, .int .i64 s, .int .i64 (c q)] 44)
          have hcp := hrow1.cell hpn
          have hfp := hrow1.frozen p
          have hd0 := (HR.out s hsn).1
          have hd1 := (HR.out s hsn).2
          go_wp2_with fail
          go_region
          have hgw : w.heap.size ≤ g := HGB.out
          have hgl : g < wr.heap.size := hrow.lt
          rw [alloc_setCell wr _ ⟨g, p, none⟩ _ hgl, alloc_drew]
          obtain ⟨w5, hw5⟩ : ∃ w5, w5 = (wr.setCell ⟨g, p, none⟩ (.int .i64 (min (roundTo t a b c d q p) (c q + d s)))).drew := ⟨_, rfl⟩
          rw [← hw5]
          have hs5 : w5.heap.size = wr.heap.size := by rw [hw5]; simp [World.setCell]
          rw [← hs5]
          rw [← hs5] at hgl
          have hb5 : Below w.heap.size w w5 := by
            rw [hw5]
            exact (hb.setCell (by show w.heap.size ≤ g; omega) _).drew
          have hrow5 : RowP w5 g 3 r (upd (fun i => .int .i64 (roundTo t a b c d q i)) p (.int .i64 (min (roundTo t a b c d q p) (c q + d s)))) := by
            rw [hw5]
            exact (hrow.set p _).drewN 1
          clear hw5 hs5 hdp1 hds1 hrow1 hcp hfp hrow hc0 hc1 hc2 hb
          have hdp4 : (w5.alloc (.cells #[.int .i64 p, .int .i64 s, .int .i64 (c q)] 44)).cell? (dd.add p) = some (.int .i64 (d p)) := ((hb5.alloc hb5.size _).cell (by rw [block_of_add]; exact hdl)).trans hdp
          have hrow6 := hrow5.alloc (.cells #[.int .i64 p, .int .i64 s, .int .i64 (c q)] 44)
          have hcs : (w5.alloc (.cells #[.int .i64 p, .int .i64 s, .int .i64 (c q)] 44)).cell? ⟨g, s, none⟩ = some (.int .i64 (roundTo t a b c d q s)) := by rw [hrow6.cell hsn, upd_other _ _ (fun h => hps h.symm)]
          have hfs := hrow6.frozen s
          have he0 := (HR.out p hpn).1
          have he1 := (HR.out p hpn).2
          have HRW : Hid (RowP ((w5.alloc (.cells #[.int .i64 p, .int .i64 s, .int .i64 (c q)] 44)).setCell ⟨g, s, none⟩ (.int .i64 (min (roundTo t a b c d q s) (c q + d p)))).drew g 3 r (fun i => .int .i64 (roundTo t a b c d (q + 1) i))) := by
            have h := hrow6.set s (.int .i64 (min (roundTo t a b c d q s) (c q + d p)))
            refine (h.congr fun i hi => ?_).drewN 1
            rw [roundTo_step hap hbs i]
            unfold upd
            by_cases e1 : i = s
            · simp only [if_pos e1]
            · simp only [if_neg e1]
              by_cases e2 : i = p
              · simp only [if_pos e2]
              · simp only [if_neg e2]
          have HB4 : Hid (Below w.heap.size w ((w5.alloc (.cells #[.int .i64 p, .int .i64 s, .int .i64 (c q)] 44)).setCell ⟨g, s, none⟩ (.int .i64 (min (roundTo t a b c d q s) (c q + d p)))).drew) := ((hb5.alloc hb5.size _).setCell (by show w.heap.size ≤ g; omega) _).drew
          clear hrow5 hrow6 hgw hgl hb5 hd0 hd1
          go_wp2_with fail
          refine wp_region_quiet_tail 18 (by kernel_rfl) (by kernel_rfl) ?_
          simp only [List.take_succ_cons, List.take_zero, List.drop_succ_cons, List.drop_zero]
          repeat (go_big_quiet_step (fail))
          refine wpQuiet_nil ?_
          go_wp2_with fail
          go_roundw
          case rel => exact ⟨q + 1, by omega, by go_num, HRW.out, HB4.out⟩
          case measure => simp [intOf]; omega
        · have eq : q = m := by omega
          subst eq
          have HRW := Lib.hid hrow
          clear hrow
          go_wp2_with fail
          go_ret2
          exact ⟨_, rfl, HGB.out, HRW.out, hb⟩

end Go.Proofs.Ytlemmphnmklbeaa

/- The walks of the reference's Repeat, StartOf, RoundOf, FarOf. -/
import Derived.Test.YtbepfmcaolmhgaaDoorRefCosts
import Derived.Test.YtbepfmcaolmhgaaDoorBellRun
import Derived.Test.YtbepfmcaolmhgaaDoorFarPlus
namespace Go.Proofs.YtbepfmcaolmhgaaDoor
open Go.RowKit
set_option linter.unusedVariables false

set_option maxRecDepth 100000 in
set_option maxHeartbeats 1000000 in
theorem refRepeat_walk (z : Int) (n : Nat) (x : Int) (hx : x = (n : Int)) (w : World) (hn : n ≤ 1000000) :
    Calls Tryd.prog 50 #[.int .i64 z, .int .i64 x] w fun e w' => ∃ v, e = .returned v ∧ OwnV w' w.heap.size v n (fun _ => z) ∧ Below w.heap.size w w' := by
  subst hx
  have hn' : (n : Int) ≤ 1000000 := by omega
  go_enter Tryd.func50, Tryd.ntmps50
  go_wp2_with fail
  go_loopw [5, 6] (fun v i wr => ∃ q : Nat, q ≤ n ∧ i = .int .i64 q ∧ OwnV wr w.heap.size v q (fun _ => z) ∧ Below w.heap.size w wr) (fun _ i _ => n - (intOf i).toNat)
  case atStart => exact ⟨0, by omega, rfl, OwnV.nil _ _ _, Below.refl _ _⟩
  case round =>
    obtain ⟨q, hq, rfl, hT, hb⟩ := hrel
    have HT := Lib.hid hT
    have HB := Lib.hid hb
    clear hT hb
    by_cases hlt : q < n
    · have hlt' : (q : Int) < n := by omega
      go_wp2_with (at_builtin; refine wpList_append_int rfl (.tmp 12) (.tmp 14) rfl w.heap.size _ q _ rfl (HT.out.alloc _) z ⟨wr.heap.size, 0, none⟩ rfl (cell_new_at _ _ _ rfl) (by omega) (by have := HB.out.size; simp; omega) ?_)
      intro g cap w6 hV6 hb6 _ _
      have HV6 := Lib.hid (hV6.congr (f' := fun _ => z) fun j hj => by
        unfold upd
        split <;> rfl)
      have HB6 := Lib.hid ((HB.out.alloc HB.out.size _).trans hb6)
      clear hV6 hb6
      go_wp2_with fail
      go_roundw
      case rel => exact ⟨q + 1, by omega, by go_num, HV6.out, HB6.out⟩
      case measure => simp [intOf]; omega
    · obtain rfl : q = n := by omega
      go_wp2_with fail
      go_ret
      exact ⟨_, rfl, HT.out, HB.out⟩

set_option maxRecDepth 100000 in
set_option maxHeartbeats 1000000 in
theorem startOf_walk (n t : Nat) (x y : Int) (hx : x = (n : Int)) (hy : y = (t : Int)) (w : World) (ht : t < n) (hn : n ≤ 1000000) :
    Calls Tryd.prog 46 #[.int .i64 x, .int .i64 y] w fun e w' => ∃ g c, e = .returned (.slice (some ⟨g, 0, none⟩) n c) ∧ w.heap.size ≤ g ∧ RowP w' g 3 n (fun i => .int .i64 (startF t i)) ∧ Below w.heap.size w w' := by
  subst hx
  subst hy
  have ht' : (t : Int) < n := by omega
  have hn' : (n : Int) ≤ 1000000 := by omega
  go_enter Tryd.func46, Tryd.ntmps46
  go_wp2_with fail
  have hcall := refRepeat_walk 16 n n rfl w hn
  refine hcall.mono ?_
  clear hcall
  rintro e w1 ⟨v1, rfl, hV, hb1⟩
  obtain ⟨g, c, rfl, hg, hrow⟩ := hV.row (by omega)
  have hc := hrow.cell ht
  have hf := hrow.frozen t
  have HR := Lib.hid ((hrow.set t (.int .i64 0)).congr (f' := fun i => .int .i64 (startF t i)) fun i hi => by
    unfold upd startF
    by_cases e : i = t
    · rw [if_pos e, if_pos e]
    · rw [if_neg e, if_neg e])
  have HB := Lib.hid (hb1.setCell (p := ⟨g, t, none⟩) hg (.int .i64 0))
  have HG := Lib.hid hg
  clear hV hb1 hg hrow
  go_wp2_with fail
  go_ret
  exact ⟨g, c, rfl, HG.out, HR.out, HB.out⟩

/-- What a node thinks, of the first q nodes. -/
def refR (K : Nat → Nat → Int) (d : Nat → Int) (i : Nat) : Nat → Int
  | 0 => 16
  | q + 1 => if q ≠ i ∧ K i q < 16 then min (refR K d i q) (min (K i q + d q) 16) else refR K d i q

theorem refR_yes {K : Nat → Nat → Int} {d : Nat → Int} {i q : Nat} (h1 : q ≠ i) (h2 : K i q < 16) : refR K d i (q + 1) = min (refR K d i q) (min (K i q + d q) 16) := if_pos ⟨h1, h2⟩
theorem refR_no {K : Nat → Nat → Int} {d : Nat → Int} {i q : Nat} (h : q = i ∨ ¬ K i q < 16) : refR K d i (q + 1) = refR K d i q := if_neg fun ⟨h1, h2⟩ => h.elim h1 fun h => h h2
theorem refR_le {K : Nat → Nat → Int} {d : Nat → Int} {i : Nat} : ∀ q, refR K d i q ≤ 16
  | 0 => Int.le_refl _
  | q + 1 => by
    have ih := refR_le (K := K) (d := d) (i := i) q
    unfold refR
    split <;> omega
theorem refR_low {K : Nat → Nat → Int} {d : Nat → Int} {i k : Nat} (h1 : k ≠ i) (h2 : K i k < 16) : ∀ q, k < q → refR K d i q ≤ K i k + d k
  | 0, h => absurd h (by omega)
  | q + 1, h => by
    by_cases e : k = q
    · subst e
      rw [refR_yes h1 h2]
      omega
    · have ih := refR_low (d := d) h1 h2 q (by omega)
      unfold refR
      split <;> omega
theorem refR_is {K : Nat → Nat → Int} {d : Nat → Int} {i : Nat} : ∀ q, refR K d i q = 16 ∨ ∃ k, k < q ∧ k ≠ i ∧ K i k < 16 ∧ refR K d i q = K i k + d k
  | 0 => .inl rfl
  | q + 1 => by
    have ih := refR_is (K := K) (d := d) (i := i) q
    have ih' : refR K d i q = 16 ∨ ∃ k, k < q + 1 ∧ k ≠ i ∧ K i k < 16 ∧ refR K d i q = K i k + d k := by
      rcases ih with h | ⟨k, hk, h⟩
      · exact .inl h
      · exact .inr ⟨k, by omega, h⟩
    by_cases h : q ≠ i ∧ K i q < 16
    · rw [refR_yes h.1 h.2]
      rcases Int.le_total (K i q + d q) 16 with h16 | h16
      · rw [Int.min_eq_left h16]
        rcases Int.le_total (refR K d i q) (K i q + d q) with h2 | h2
        · rw [Int.min_eq_left h2]; exact ih'
        · rw [Int.min_eq_right h2]; exact .inr ⟨q, by omega, h.1, h.2, rfl⟩
      · rw [Int.min_eq_right h16, Int.min_eq_left (refR_le q)]; exact ih'
    · rw [show refR K d i (q + 1) = refR K d i q from if_neg h]; exact ih'

/-- The reference's round is the program's. -/
theorem ref_round {n m t i : Nat} {a b c d : Nat → Int} (hr : Right n m a b c) (hd : RangedV n d) (hi : i < n) : (if i = t then 0 else refR (costF m a b c) d i n) = roundTo t a b c d m i := by
  obtain ⟨h1, h2, h3⟩ := roundTo_round (t := t) (d := d) hr i hi
  have hR := (roundTo_round (t := t) hr).ranged (edge_good hr) hd i hi
  unfold startF at h1 h3
  by_cases e : i = t
  · rw [if_pos e] at h1 ⊢
    omega
  · rw [if_neg e] at h1 h3 ⊢
    refine Int.le_antisymm ?_ ?_
    · rcases h3 with h3 | ⟨v, k, he, h3⟩
      · rw [h3]; exact refR_le n
      · rw [h3]
        obtain ⟨-, hv, hne, -, h15⟩ := he.ok hr
        have ek : costF m a b c i v = k := costV_edge hr he
        rw [← ek]
        exact refR_low (fun e => hne e.symm) (by omega) n hv
    · rcases refR_is (K := costF m a b c) (d := d) (i := i) n with h | ⟨k, hk, hne, hlt, h⟩
      · rw [h]; exact h1
      · rw [h]
        exact h2 k _ (by
          rcases costV_cases hr i k with ⟨e, -⟩ | ⟨-, e, -⟩ | ⟨-, he⟩
          · exact absurd e.symm hne
          · have : costF m a b c i k = 16 := e
            omega
          · exact he)

attribute [local go_sem high] run_min_pair

set_option maxRecDepth 100000 in
set_option maxHeartbeats 2000000 in
theorem roundOf_walk (n t : Nat) (x y : Int) (hx : x = (n : Int)) (hy : y = (t : Int)) (A D : Option Addr) (m cp cd : Nat) (a b c d : Nat → Int) (w : World) (hl : Lnk w A m a b c) (hd : Vec w D n d) (hm : m ≤ 9223372036854775807) (h1 : 1 ≤ n) (h8 : n ≤ 8) (hr : Right n m a b c) (hR : RangedV n d) (ht : t < n) :
    Calls Tryd.prog 47 #[.int .i64 x, .slice A m cp, .int .i64 y, .slice D n cd] w fun e w' => ∃ g cg, e = .returned (.slice (some ⟨g, 0, none⟩) n cg) ∧ w.heap.size ≤ g ∧ RowP w' g 3 n (fun i => .int .i64 (roundTo t a b c d m i)) ∧ Below w.heap.size w w' := by
  subst hx
  subst hy
  have h8' : (n : Int) ≤ 8 := by omega
  have HL := Lib.hid hl
  have HD := Lib.hid hd
  have HR := Lib.hid hr
  have HV := Lib.hid hR
  clear hl hd hr hR
  go_enter Tryd.func47, Tryd.ntmps47
  go_wp2_with fail
  go_loopw [9, 10] (fun v i wr => ∃ r : Nat, r ≤ n ∧ i = .int .i64 r ∧ OwnV wr w.heap.size v r (roundTo t a b c d m) ∧ Below w.heap.size w wr) (fun _ i _ => n - (intOf i).toNat)
  case atStart => exact ⟨0, by omega, rfl, OwnV.nil _ _ _, Below.refl _ _⟩
  case round =>
    obtain ⟨r, hrn, rfl, hT, hb⟩ := hrel
    obtain ⟨wo, hwo⟩ : ∃ wo, wo = wr := ⟨_, rfl⟩
    subst hwo
    have HT := Lib.hid hT
    have HB := Lib.hid hb
    clear hT hb
    by_cases hlt : r < n
    · have hlt' : (r : Int) < n := by omega
      go_wp2_with fail
      go_loopw [11, 12] (fun v i wj => ∃ q : Nat, q ≤ n ∧ i = .int .i64 q ∧ (∃ z, v = .int .i64 z ∧ Hid (refR (costF m a b c) d r q = z) ∧ z ≤ 16) ∧ ∃ N, wj = wo.drewN N) (fun _ i _ => n - (intOf i).toNat)
      case atStart => exact ⟨0, by omega, rfl, ⟨16, rfl, Lib.hid rfl, by omega⟩, 0, rfl⟩
      case round =>
        obtain ⟨q, hq, rfl, ⟨z, rfl, hz, hz16⟩, N, rfl⟩ := hrel
        have HZ := hz
        clear hz
        by_cases hqn : q < n
        · have hqn' : (q : Int) < n := by omega
          obtain ⟨ad, rfl, hadb, hc0⟩ := (HD.out.keep HB.out) q hqn
          obtain ⟨u, hu⟩ : ∃ u, d q = u := ⟨_, rfl⟩
          have hur := HV.out q hqn
          rw [hu] at hc0 hur
          obtain ⟨hu0, hu1⟩ := hur
          obtain ⟨k, hk⟩ : ∃ k, costV m a b c r q = k := ⟨_, rfl⟩
          have hkr := costV_ranged HR.out r q
          rw [hk] at hkr
          obtain ⟨hk0, hk1⟩ := hkr
          have HK := Lib.hid hk
          have HU := Lib.hid hu
          clear hk hu
          by_cases hqr : q = r
          · have hdn : ((q : Int) != r) = false := by simp [hqr]
            have hdn' : (q != r) = false := by simp [hqr]
            have HZ1 : Hid (refR (costF m a b c) d r (q + 1) = z) := by rw [refR_no (.inl hqr)]; exact HZ.out
            clear hqr
            go_wp2_with fail
            go_roundw
            case rel => exact ⟨q + 1, by omega, by go_num, ⟨z, rfl, HZ1, hz16⟩, N, rfl⟩
            case measure => simp [intOf]; omega
          · have hdb : ((q : Int) == r) = false := beq_false_of_ne (by omega)
            have hdb' : (q == r) = false := beq_false_of_ne hqr
            have hdn : ((q : Int) != r) = true := by simp; omega
            have hdn' : (q != r) = true := by simp; omega
            have HQR := Lib.hid hqr
            clear hqr
            by_cases h16 : k < 16
            · have HZ1 : Hid (refR (costF m a b c) d r (q + 1) = min z (min (k + u) 16)) := by
                have hh : costF m a b c r q < 16 := by show costV m a b c r q < 16; rw [HK.out]; exact h16
                rw [refR_yes HQR.out hh, HZ.out, HU.out]
                show min z (min (costV m a b c r q + u) 16) = _
                rw [HK.out]
              go_wp2_with fail
              refine (costOf_walk (A) m cp a b c r q _ ((HL.out.keep HB.out).drewN N) hm k HK.out).mono ?_
              rintro e w6 ⟨rfl, h6⟩
              subst w6
              go_wp2_with fail
              go_quiet ((first | (go_at_call 17; exact quiet_adds ((costOf_walk A m cp a b c r q _ ((HL.out.keep HB.out).drewN _) hm k HK.out).mono fun _ _ h => ⟨h.1, 0, h.2⟩)) | (go_at_call 51; exact quiet_adds ((plus_walk k u _ hk0 hk1 hu0 hu1).mono fun _ _ h => ⟨h.1, 0, h.2⟩))))
              go_wp2_with fail
              go_roundw
              case rel => exact ⟨q + 1, by omega, by go_num, ⟨_, rfl, HZ1, by omega⟩, _, rfl⟩
              case measure => simp [intOf]; omega
            · have hd16 : decide (k < 16) = false := decide_eq_false h16
              have HZ1 : Hid (refR (costF m a b c) d r (q + 1) = z) := by
                have hh : ¬ costF m a b c r q < 16 := by show ¬ costV m a b c r q < 16; rw [HK.out]; exact h16
                rw [refR_no (.inr hh)]; exact HZ.out
              clear h16
              go_wp2_with fail
              refine (costOf_walk (A) m cp a b c r q _ ((HL.out.keep HB.out).drewN N) hm k HK.out).mono ?_
              rintro e w6 ⟨rfl, h6⟩
              subst w6
              go_wp2_with fail
              go_roundw
              case rel => exact ⟨q + 1, by omega, by go_num, ⟨z, rfl, HZ1, hz16⟩, N, rfl⟩
              case measure => simp [intOf]; omega
        · obtain rfl : n = q := by omega
          have HE := Lib.hid (ref_round (t := t) HR.out HV.out hlt)
          clear hqn hq
          by_cases hrt : r = t
          · have hdb : ((r : Int) == t) = true := by rw [beq_iff_eq]; omega
            have hdb' : (r == t) = true := by rw [beq_iff_eq]; exact hrt
            have HE0 : Hid (0 = roundTo t a b c d m r) := by have := HE.out; rw [if_pos hrt] at this; exact this
            clear hrt HE
            go_wp2_with (at_builtin; refine wpList_append_int rfl (.tmp 47) (.tmp 49) rfl w.heap.size _ r _ rfl ((HT.out.alloc _).drewN N) 0 ⟨wo.heap.size, 0, none⟩ rfl (cell_new_at wo _ _ rfl) (by omega) (by have := HB.out.size; simp; omega) ?_)
            intro g cap w6 hV6 hb6 _ _
            have HV6 := Lib.hid (hV6.congr (f' := roundTo t a b c d m) fun j hj => by
              unfold upd
              by_cases e : j = r
              · rw [if_pos e, e]; exact HE0.out
              · rw [if_neg e])
            have HB6 := Lib.hid (Below.trans (below_drewN (HB.out.alloc HB.out.size _) N) hb6)
            clear hV6 hb6
            go_wp2_with fail
            go_roundw
            case rel => exact ⟨r + 1, by omega, by go_num, HV6.out, HB6.out⟩
            case measure => simp [intOf]; omega
          · have hdb : ((r : Int) == t) = false := beq_false_of_ne (by omega)
            have hdb' : (r == t) = false := beq_false_of_ne hrt
            have HE0 : Hid (z = roundTo t a b c d m r) := by have := HE.out; rw [if_neg hrt, HZ.out] at this; exact this
            clear hrt HE
            go_wp2_with (at_builtin; refine wpList_append_int rfl (.tmp 47) (.tmp 49) rfl w.heap.size _ r _ rfl ((HT.out.alloc _).drewN N) z ⟨wo.heap.size, 0, none⟩ rfl (cell_new_at wo _ _ rfl) (by omega) (by have := HB.out.size; simp; omega) ?_)
            intro g cap w6 hV6 hb6 _ _
            have HV6 := Lib.hid (hV6.congr (f' := roundTo t a b c d m) fun j hj => by
              unfold upd
              by_cases e : j = r
              · rw [if_pos e, e]; exact HE0.out
              · rw [if_neg e])
            have HB6 := Lib.hid (Below.trans (below_drewN (HB.out.alloc HB.out.size _) N) hb6)
            clear hV6 hb6
            go_wp2_with fail
            go_roundw
            case rel => exact ⟨r + 1, by omega, by go_num, HV6.out, HB6.out⟩
            case measure => simp [intOf]; omega
    · obtain rfl : n = r := by omega
      obtain ⟨g, cg, rfl, hg, hrow⟩ := HT.out.row h1
      have HG := Lib.hid hg
      have HROW := Lib.hid hrow
      clear hg hrow
      go_wp2_with fail
      go_ret
      exact ⟨g, cg, rfl, HG.out, HROW.out, HB.out⟩

set_option maxRecDepth 100000 in
set_option maxHeartbeats 2000000 in
theorem farOf_walk (n t : Nat) (x y : Int) (hx : x = (n : Int)) (hy : y = (t : Int)) (A : Option Addr) (m cp : Nat) (a b c : Nat → Int) (w : World) (hl : Lnk w A m a b c) (hm : m ≤ 9223372036854775807) (h1 : 1 ≤ n) (h8 : n ≤ 8) (hr : Right n m a b c) (ht : t < n) :
    Calls Tryd.prog 21 #[.int .i64 x, .slice A m cp, .int .i64 y] w fun e w' => ∃ g cg, e = .returned (.slice (some ⟨g, 0, none⟩) n cg) ∧ w.heap.size ≤ g ∧ RowP w' g 3 n (fun i => .int .i64 (endF t a b c m i)) ∧ Below w.heap.size w w' := by
  subst hx
  subst hy
  have h8' : (n : Int) ≤ 8 := by omega
  have HL := Lib.hid hl
  have HR := Lib.hid hr
  clear hl hr
  go_enter Tryd.func21, Tryd.ntmps21
  go_wp2_with fail
  have hcall := startOf_walk n t n t rfl rfl w ht (by omega)
  refine hcall.mono ?_
  clear hcall
  rintro e w1 ⟨g1, c1, rfl, hg1, hrow1, hb1⟩
  have HROW := Lib.hid hrow1
  have HG1 := Lib.hid hg1
  have HB1 := Lib.hid hb1
  clear hg1 hrow1 hb1
  go_wp2_with fail
  go_loopw [7, 8] (fun v i wr => ∃ r : Nat, r ≤ n ∧ i = .int .i64 r ∧ (∃ g cg, v = .slice (some ⟨g, 0, none⟩) n cg ∧ w.heap.size ≤ g ∧ RowP wr g 3 n (fun i => .int .i64 (rounds t a b c m (startF t) r i))) ∧ Below w.heap.size w wr) (fun _ i _ => n - (intOf i).toNat)
  case atStart => exact ⟨0, by omega, rfl, ⟨g1, c1, rfl, HG1.out, HROW.out⟩, HB1.out⟩
  case round =>
    obtain ⟨r, hrn, rfl, ⟨g, cg, rfl, hg, hrow⟩, hb⟩ := hrel
    clear HROW HG1 HB1
    have HROW := Lib.hid hrow
    have HG := Lib.hid hg
    have HB := Lib.hid hb
    clear hg hrow hb
    by_cases hlt : r < n
    · have hlt' : (r : Int) < n := by omega
      go_wp2_with fail
      have hcall := roundOf_walk n t n t rfl rfl A (some ⟨g, 0, none⟩) m cp cg a b c (rounds t a b c m (startF t) r) wr (HL.out.keep HB.out) HROW.out.vec hm h1 h8 HR.out (rounds_ranged HR.out (startF_ranged t n) r) ht
      refine hcall.mono ?_
      clear hcall
      rintro e w2 ⟨g2, c2, rfl, hg2, hrow2, hb2⟩
      have HROW2 := Lib.hid hrow2
      have HG2 := Lib.hid (Nat.le_trans HB.out.size hg2)
      have HB2 := Lib.hid (keep HB.out hb2)
      clear hg2 hrow2 hb2
      go_wp2_with fail
      go_roundw
      case rel => exact ⟨r + 1, by omega, by go_num, ⟨g2, c2, rfl, HG2.out, HROW2.out⟩, HB2.out⟩
      case measure => simp [intOf]; omega
    · obtain rfl : n = r := by omega
      have HE : Hid (RowP wr g 3 n (fun i => .int .i64 (endF t a b c m i))) := HROW.out.congr fun i hi => by rw [end_fewer HR.out ht (by omega) i hi]
      go_wp2_with fail
      go_ret
      exact ⟨g, cg, rfl, HG.out, HE.out, HB.out⟩

end Go.Proofs.YtbepfmcaolmhgaaDoor

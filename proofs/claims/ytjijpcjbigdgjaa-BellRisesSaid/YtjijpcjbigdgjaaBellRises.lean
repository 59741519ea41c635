/- BellRises: who think all less think no more behind a round; from the beginning on each round makes none farther. For all arguments; no condition. -/
import Derived.Test.YtjijpcjbigdgjaaBellFixed
namespace Go.Proofs.Ytjijpcjbigdgjaa
open Go.RowKit
set_option linter.unusedVariables false

/-- What is thought, and more. -/
def upF (d e : Nat → Int) (j : Nat) : Int := min 16 (d j + e j)

theorem upF_ranged {n : Nat} {d e : Nat → Int} (hd : RangedV n d) (he : RangedV n e) : RangedV n (upF d e) := fun i hi => by
  have := hd i hi
  have := he i hi
  unfold upF
  omega
theorem upF_le {n : Nat} {d e : Nat → Int} (hd : RangedV n d) (he : RangedV n e) : ∀ i, i < n → d i ≤ upF d e i := fun i hi => by
  have := hd i hi
  have := he i hi
  unfold upF
  omega
theorem upF_next (d e : Nat → Int) (r : Nat) : ∀ i, i < r + 1 → upd (upF d e) r (min 16 (d r + e r)) i = upF d e i := fun i hi => by
  unfold upd upF
  by_cases h : i = r
  · subst h; rw [if_pos rfl]
  · rw [if_neg h]

attribute [local go_sem high] run_min_pair

set_option maxRecDepth 100000 in
set_option maxHeartbeats 4000000 in
theorem bellRises_walk (x : Int) (A : Option Addr) (m cp : Nat) (a b c : Nat → Int) (y : Int) (D : Option Addr) (k cd : Nat) (d : Nat → Int) (E : Option Addr) (k' ce : Nat) (e : Nat → Int) (w : World)
    (hl : Lnk w A m a b c) (hm : m ≤ 9223372036854775807) (hd : Vec w D k d) (hk : k ≤ 9223372036854775807) (he : Vec w E k' e) (hk' : k' ≤ 9223372036854775807) :
    Calls Try.prog 11 #[.int .i64 x, .slice A m cp, .int .i64 y, .slice D k cd, .slice E k' ce] w fun e w' => e = .returned (.bool true) ∧ Below w.heap.size w w' := by
  have HL := Lib.hid hl
  have HD := Lib.hid hd
  have HE := Lib.hid he
  clear hl hd he
  go_enter Try.func11, Try.ntmps11
  go_wp2_with fail
  refine (rounded_walk w).mono ?_
  rintro e w1 ⟨rfl, hb1⟩
  have HB1 := Lib.hid hb1
  clear hb1
  go_wp2_with fail
  rcases round_cases x m a b c y k d with hgr | ⟨v, -, hf⟩
  · obtain ⟨hg, h0, h1, rfl, hrd⟩ := hgr
    obtain ⟨n, hn, hn1, hn8, hr⟩ := good_nat hg
    obtain rfl : k = n := by omega
    obtain ⟨t, rfl⟩ : ∃ t : Nat, y = t := ⟨y.toNat, by omega⟩
    have ht : t < k := by omega
    have hn8' : (k : Int) ≤ 8 := by omega
    have HG := Lib.hid hg
    have HR := Lib.hid hr
    have HRD := Lib.hid hrd
    clear hg hr h0 h1 hrd hn
    have hcall := bellRound_ok k t k t rfl rfl A D m cp cd k rfl a b c d w1 (HL.out.keep HB1.out) (HD.out.keep HB1.out) hm HG.out ht HRD.out
    refine hcall.mono ?_
    clear hcall
    rintro e w2 ⟨ga, rfl, -, hrow, hb2⟩
    have HA := Lib.hid hrow
    have HB2 := Lib.hid (keep HB1.out hb2)
    clear hrow hb2 HB1
    by_cases hkk : k' = k
    · subst hkk
      go_wp2_with fail
      go_loopw [14, 15] (fun v i wr => ∃ r : Nat, r ≤ k' ∧ i = .int .i64 r ∧ OwnV wr w2.heap.size v r (upF d e) ∧ Below w2.heap.size w2 wr ∧ Hid (RangedV r e)) (fun _ i _ => k' - (intOf i).toNat)
      case atStart => exact ⟨0, by omega, rfl, OwnV.nil _ _ _, Below.refl _ _, Lib.hid fun j hj => absurd hj (by omega)⟩
      case round =>
        obtain ⟨r, hr, rfl, hT, hb, hre⟩ := hrel
        have HRE := hre
        have HT := Lib.hid hT
        have HB := Lib.hid hb
        clear hre hT hb
        by_cases hlt : r < k'
        · have hlt' : (r : Int) < k' := by omega
          have HBW := Lib.hid (keep HB2.out HB.out)
          obtain ⟨ed, rfl, hel, hec⟩ := HE.out r hlt
          have hec := (HBW.out.cell (by rw [block_of_add]; exact hel)).trans hec
          clear hel
          rcases (show e r < 0 ∨ (0 ≤ e r ∧ 16 < e r) ∨ (0 ≤ e r ∧ e r ≤ 16) by omega) with hbad | hbad | hin
          · go_wp2_with fail
            go_ret
            exact ⟨rfl, HBW.out⟩
          · obtain ⟨hb0, hb1⟩ := hbad
            go_wp2_with fail
            go_ret
            exact ⟨rfl, HBW.out⟩
          · obtain ⟨hi0, hi1⟩ := hin
            have HRE1 : Hid (RangedV (r + 1) e) := fun j hj => by
              rcases Nat.lt_or_ge j r with h | h
              · exact HRE.out j h
              · obtain rfl : j = r := by omega
                exact ⟨hi0, hi1⟩
            obtain ⟨dd, rfl, hdl, hdc⟩ := HD.out r hlt
            have hdc := (HBW.out.cell (by rw [block_of_add]; exact hdl)).trans hdc
            have hd0 := (HRD.out r hlt).1
            have hd1 := (HRD.out r hlt).2
            clear hdl
            go_wp2_with fail
            go_region_law (refine step_append_int rfl (.tmp 62) (.tmp 73) rfl w2.heap.size _ r (upF d e) rfl ((HT.out.alloc _).drew) _ ⟨wr.heap.size, 0, none⟩ rfl (cell_new_at _ _ _ rfl) (by omega) (by have := HB.out.size; simp; omega) ?_; intro g3 cap3 w3 hT3 hb3 _ _)
            all_goals
              have hw : IntKind.i64.wrap (d r + e r) = d r + e r := IntWalk.i64_in _ (by omega)
              have HT3 := Lib.hid (OwnV.congr (f' := upF d e) hT3 (by rw [hw]; exact upF_next d e r))
              clear hw
              have HB3 : Hid (Below w2.heap.size w2 w3) := ((HB.out.alloc HB.out.size _).drew).trans hb3
              clear hT3 hb3 HT HB HBW hdc hec
              go_wp2_with fail
              go_roundw
              case rel => exact ⟨r + 1, by omega, by go_num, HT3.out, HB3.out, HRE1⟩
              case measure => simp [intOf]; omega
        · have er : r = k' := by omega
          subst er
          obtain ⟨U, cu, rfl, hU⟩ := HT.out.vec
          have HU := Lib.hid hU
          have HBW := Lib.hid (keep HB2.out HB.out)
          have HA3 := Lib.hid (HA.out.below HB.out HA.out.lt)
          clear hU HT HB HB2 HA
          go_wp2_with fail
          have hcall := bellRound_ok r t r t rfl rfl A U m cp cu r rfl a b c (upF d e) wr (HL.out.keep HBW.out) HU.out hm HG.out ht (upF_ranged HRD.out HRE.out)
          refine hcall.mono ?_
          clear hcall
          rintro e' w4 ⟨gb, rfl, -, hrow4, hb4⟩
          have HRB := Lib.hid hrow4
          have HA4 := Lib.hid (HA3.out.below hb4 HA3.out.lt)
          have HB4 := Lib.hid (keep HBW.out hb4)
          clear hrow4 hb4 HBW HA3 HU
          go_wp2_with fail
          have hcall := bellStart_ok r t r t rfl rfl w4 hn1 hn8 ht
          refine hcall.mono ?_
          clear hcall
          rintro e' w5 ⟨gs, rfl, -, hrow5, hb5⟩
          have HS5 : Hid (RowP w5 gs 3 r fun i => .int .i64 (rounds t a b c m (startF t) 0 i)) := hrow5
          have HA5 := Lib.hid (HA4.out.below hb5 HA4.out.lt)
          have HRB5 := Lib.hid (HRB.out.below hb5 HRB.out.lt)
          have HB5 := Lib.hid (keep HB4.out hb5)
          clear hrow5 hb5 HB4 HA4 HRB
          go_wp2_with fail
          go_loopw [18, 20] (fun v i wq => ∃ q g6 : Nat, q ≤ 3 ∧ i = .int .i64 q ∧ v = .slice (some ⟨g6, 0, none⟩) r r ∧ RowP wq g6 3 r (fun i => .int .i64 (rounds t a b c m (startF t) q i)) ∧ RowP wq ga 3 r (fun i => .int .i64 (roundTo t a b c d m i)) ∧ RowP wq gb 3 r (fun i => .int .i64 (roundTo t a b c (upF d e) m i)) ∧ Below w.heap.size w wq) (fun _ i _ => 3 - (intOf i).toNat)
          case atStart => exact ⟨0, gs, by omega, rfl, rfl, HS5.out, HA5.out, HRB5.out, HB5.out⟩
          case round =>
            obtain ⟨q, g6, hq, rfl, rfl, hrow, hrowA, hrowB, hb⟩ := hrel
            obtain ⟨wo, rfl⟩ : ∃ wo : World, wo = wr := ⟨_, rfl⟩
            clear HS5 HA5 HRB5 HB5
            have HS := Lib.hid hrow
            have HA := Lib.hid hrowA
            have HBR := Lib.hid hrowB
            have HB := Lib.hid hb
            clear hrow hrowA hrowB hb
            by_cases hlt : q < 3
            · have hlt' : (q : Int) < 3 := by omega
              go_wp2_with fail
              have hcall := bellRound_ok r t r t rfl rfl A (some ⟨g6, 0, none⟩) m cp r r rfl a b c (rounds t a b c m (startF t) q) _ (HL.out.keep HB.out) HS.out.vec hm HG.out ht (rounds_ranged HR.out (startF_ranged t r) q)
              refine hcall.mono ?_
              clear hcall
              rintro e' w7 ⟨g7, rfl, -, hrow7, hb7⟩
              have HS7 := Lib.hid (HS.out.below hb7 HS.out.lt)
              have HA7 := Lib.hid (HA.out.below hb7 HA.out.lt)
              have HR7 := Lib.hid (HBR.out.below hb7 HBR.out.lt)
              have HT7 : Hid (RowP w7 g7 3 r fun i => .int .i64 (rounds t a b c m (startF t) (q + 1) i)) := hrow7
              have HB7 := Lib.hid (keep HB.out hb7)
              clear hrow7 hb7 HB HA HBR HS
              go_wp2_with fail
              go_loopw [23] (fun i wi => ∃ (j k7 : Nat), j ≤ r ∧ i = .int .i64 j ∧ wi = w7.drewN k7) (fun i _ => r - (intOf i).toNat)
              case atStart => exact ⟨0, 0, by omega, rfl, rfl⟩
              case round =>
                obtain ⟨j, k7, hj, rfl, rfl⟩ := hrel
                by_cases hjl : j < r
                · have hjl' : (j : Int) < r := by omega
                  have hd1 : decide (rounds t a b c m (startF t) q j < rounds t a b c m (startF t) (q + 1) j) = false := decide_eq_false (by have := rounds_falls (t := t) HR.out q j hjl; omega)
                  have hd2 : decide (roundTo t a b c (upF d e) m j < roundTo t a b c d m j) = false := decide_eq_false (by have := round_mono (t := t) HR.out (upF_le HRD.out HRE.out) j hjl; omega)
                  have hc0 := HT7.out.cell hjl
                  have hc1 := HS7.out.cell hjl
                  have hc2 := HA7.out.cell hjl
                  have hc3 := HR7.out.cell hjl
                  go_wp2_with fail
                  go_quiet (fail)
                  go_wp2_with fail
                  go_roundw
                  case rel => exact ⟨j + 1, _, by omega, by go_num, rfl⟩
                  case measure => simp [intOf]; omega
                · have ej : j = r := by omega
                  subst ej
                  go_wp2_with fail
                  go_roundw
                  case rel => exact ⟨q + 1, g7, by omega, by go_num, rfl, HT7.out.drewN k7, HA7.out.drewN k7, HR7.out.drewN k7, below_drewN HB7.out k7⟩
                  case measure => simp [intOf]; omega
            · have eq : q = 3 := by omega
              subst eq
              go_wp2_with fail
              go_ret
              exact ⟨rfl, HB.out⟩
    · have hd1 : decide ((k' : Int) = (k : Int)) = false := decide_eq_false (by omega)
      go_wp2_with fail
      go_ret
      exact ⟨rfl, HB2.out⟩
  · have HFR := Lib.hid hf
    clear hf
    have hcall := bellRound_bad x y A D m cp cd k a b c d w1 (HL.out.keep HB1.out) (HD.out.keep HB1.out) hm hk v HFR.out
    refine hcall.mono ?_
    clear hcall
    rintro e w2 ⟨rfl, hb2⟩
    go_wp2_with fail
    go_ret
    exact ⟨rfl, keep HB1.out hb2⟩

end Go.Proofs.Ytjijpcjbigdgjaa

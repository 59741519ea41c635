/- WheelSteps: what is due by a tick is what is due by two, one after the other, up to the same time. For all arguments; no condition. -/
import Derived.Test.YtfdldjlaedfllaaWhStep
import Derived.Test.YtfdldjlaedfllaaOwnAny
import Derived.Test.YtfdldjlaedfllaaTail
import Derived.Deep.RegionHeld3
namespace Go.Proofs.Ytfdldjlaedfllaa
open Go.RowKit Go.Maps
set_option linter.unusedVariables false

/-- Two wheels that are set alike. -/
structure TwoW (w : World) (p q : Nat) (due : Nat → Int) (F G : Nat → Prop) (wr : World) : Prop where
  v1 : Wh wr F p 64 0 due
  w2 : Wh wr G q 64 0 due
  tm : Tm 0 due
  ap : ∀ k, F k → ¬ G k
  bF : ∀ k, F k → w.heap.size ≤ k
  bG : ∀ k, G k → w.heap.size ≤ k
  bel : Below w.heap.size w wr

/-- .. of which the first one has been set. -/
structure TwoH (w : World) (p q : Nat) (due due' : Nat → Int) (F G : Nat → Prop) (wr : World) : Prop where
  v1 : Wh wr F p 64 0 due'
  w2 : Wh wr G q 64 0 due
  tm : Tm 0 due
  ap : ∀ k, F k → ¬ G k
  bF : ∀ k, F k → w.heap.size ≤ k
  bG : ∀ k, G k → w.heap.size ≤ k
  bel : Below w.heap.size w wr

section
variable {w wr w' : World} {p q : Nat} {due due' : Nat → Int} {F G F' G' : Nat → Prop}
theorem TwoW.drewN (h : TwoW w p q due F G wr) (k : Nat) : TwoW w p q due F G (wr.drewN k) := ⟨h.v1.drewN k, h.w2.drewN k, h.tm, h.ap, h.bF, h.bG, below_drewN h.bel k⟩
theorem TwoH.drewN (h : TwoH w p q due due' F G wr) (k : Nat) : TwoH w p q due due' F G (wr.drewN k) := ⟨h.v1.drewN k, h.w2.drewN k, h.tm, h.ap, h.bF, h.bG, below_drewN h.bel k⟩
theorem TwoW.one (h : TwoW w p q due F G wr) (hw : Wh w' F' p (64 + 1) 0 due') (hF : ∀ k, F' k → F k ∨ wr.heap.size ≤ k) (hf : Fr F wr w') : TwoH w p q due due' F' G w' := by
  refine ⟨hw.tight, h.w2.keep hf (fun k hk e => h.ap k e hk), h.tm, fun k hk e => ?_, fun k hk => ?_, h.bG, h.bel.trans (hf.below h.bel.size h.bF)⟩
  · rcases hF k hk with h1 | h1
    · exact h.ap k h1 e
    · have := h.w2.lt k e; omega
  · rcases hF k hk with h1 | h1
    · exact h.bF k h1
    · have := h.bel.size; omega
theorem TwoH.two (h : TwoH w p q due due' F G wr) (hw : Wh w' G' q (64 + 1) 0 due') (hG : ∀ k, G' k → G k ∨ wr.heap.size ≤ k) (hf : Fr G wr w') (ht : Tm 0 due') : TwoW w p q due' F G' w' := by
  refine ⟨h.v1.keep hf (fun k hk e => h.ap k hk e), hw.tight, ht, fun k hk e => ?_, h.bF, fun k hk => ?_, h.bel.trans (hf.below h.bel.size h.bG)⟩
  · rcases hG k e with h1 | h1
    · exact h.ap k hk h1
    · have := h.v1.lt k hk; omega
  · rcases hG k hk with h1 | h1
    · exact h.bG k h1
    · have := h.bel.size; omega
end

set_option maxRecDepth 100000 in
set_option maxHeartbeats 8000000 in
theorem wheelSteps_walk (A : Option Addr) (n ca : Nat) (f : Nat → Int) (B : Option Addr) (m cb : Nat) (g : Nat → Int) (a b : Int) (w : World)
    (hA : Vec w A n f) (hn : n ≤ 9223372036854775807) (hB : Vec w B m g) (hm : m ≤ 9223372036854775807) :
    Calls Try.prog 4 #[.slice A n ca, .slice B m cb, .int .i64 a, .int .i64 b] w fun e w' => e = .returned (.bool true) ∧ Below w.heap.size w w' := by
  have HA := Lib.hid hA
  have HBv := Lib.hid hB
  have HNn := Lib.hid hn
  have HMm := Lib.hid hm
  clear hA hB hn hm
  go_enter Try.func4, Try.ntmps4
  go_wp2_with fail
  refine (wheeled_walk w).mono ?_
  rintro e w1 ⟨rfl, hb1⟩
  have HB1 := Lib.hid hb1
  clear hb1
  go_wp2_with fail
  refine (wnew_walk w1).mono ?_
  rintro e w2 ⟨p, F0, rfl, hW, hF, hb⟩
  have HW2 := Lib.hid hW
  have HF2 := Lib.hid hF
  have HB2 := Lib.hid (keep HB1.out hb)
  clear hW hF hb
  go_wp2_with fail
  refine (wnew_walk w2).mono ?_
  rintro e w3 ⟨q, G0, rfl, hW, hF, hb⟩
  have HO : Hid (TwoW w p q (fun _ => 0) F0 G0 w3) := Lib.hid ⟨(HW2.out.below hb).tight, hW.tight, Tm.start, fun k hk e => by
    have := HW2.out.lt k hk
    have := hF k e
    omega, fun k hk => Nat.le_trans HB1.out.size (HF2.out k hk), fun k hk => Nat.le_trans HB2.out.size (hF k hk), keep HB2.out hb⟩
  clear hW hF hb HW2 HF2 HB2 HB1
  go_wp2_with fail
  go_loopw [12] (fun qv wr => ∃ (k : Nat) (due : Nat → Int) (F G : Nat → Prop), k ≤ n ∧ k ≤ m ∧ qv = .int .i64 k ∧ TwoW w p q due F G wr) (fun qv _ => n - (intOf qv).toNat)
  case atStart => exact ⟨0, _, F0, G0, by omega, by omega, rfl, HO.out⟩
  case round =>
    obtain ⟨k, due, F, G, hkn, hkm, rfl, hS⟩ := hrel
    have HS := Lib.hid hS
    clear hS HO
    by_cases hlt : k < n ∧ k < m
    · have hl1 : (k : Int) < n := by omega
      have hl2 : (k : Int) < m := by omega
      have hl1' := hlt.1
      have hl2' := hlt.2
      have hkn' : k + 1 ≤ 9223372036854775807 := by have := HNn.out; omega
      obtain ⟨ad, eA, had, hca⟩ := HA.out k hlt.1
      obtain ⟨bd, eB, hbd, hcb⟩ := HBv.out k hlt.2
      cases eA
      cases eB
      obtain ⟨x, hx⟩ : ∃ x, f k = x := ⟨_, rfl⟩
      obtain ⟨y, hy⟩ : ∃ y, g k = y := ⟨_, rfl⟩
      rw [hx] at hca
      rw [hy] at hcb
      have HCA : Hid (∀ w' : World, Below w.heap.size w w' → w'.cell? (ad.add k) = some (.int .i64 x)) := Lib.hid fun w' hb => (hb.cell (p := ad.add k) (by rw [block_of_add]; exact had)).trans hca
      have HCB : Hid (∀ w' : World, Below w.heap.size w w' → w'.cell? (bd.add k) = some (.int .i64 y)) := Lib.hid fun w' hb => (hb.cell (p := bd.add k) (by rw [block_of_add]; exact hbd)).trans hcb
      have HC0 : Hid (wr.drew.cell? (ad.add k) = some (.int .i64 x) ∧ wr.drew.cell? (bd.add k) = some (.int .i64 y)) := Lib.hid ⟨HCA.out wr HS.out.bel, HCB.out wr HS.out.bel⟩
      clear hx hy hca hcb had hbd hlt
      by_cases hok : (0 ≤ x ∧ x < 64) ∧ 0 < y ∧ y ≤ 1099511627776
      · obtain ⟨i, rfl⟩ : ∃ i : Nat, x = i := ⟨x.toNat, by omega⟩
        have hi : i < 64 := by omega
        have HK := Lib.hid (wset_ok wr.drew F p 64 0 due (HS.out.v1.drewN 1) HS.out.tm (by omega) i hi y hok.2.1 hok.2.2)
        have HKP : Hid (∀ w4 : World, Fr F wr.drew w4 → w4.cell? (ad.add k) = some (.int .i64 (i : Int)) ∧ w4.cell? (bd.add k) = some (.int .i64 y)) := Lib.hid fun w4 hf =>
          ⟨HCA.out w4 ((below_drewN HS.out.bel 1).trans (hf.below HS.out.bel.size HS.out.bF)), HCB.out w4 ((below_drewN HS.out.bel 1).trans (hf.below HS.out.bel.size HS.out.bF))⟩
        have HY := Lib.hid hok.2
        have HI := Lib.hid hi
        clear hok hi
        go_wp2_with fail
        go_region_held3 (fun w' => w'.cell? (ad.add k) = some (.int .i64 (i : Int)) ∧ w'.cell? (bd.add k) = some (.int .i64 y))
          (first | exact HC0.out | exact HKP.out _ hf4 | go_keep)
          (first | (go_at_call 9; refine HK.out.mono ?_; rintro e w4 ⟨rfl, F4, hW4, hF4, hf4⟩))
        all_goals
          have HH := Lib.hid ((HS.out.drewN 1).one hW4 hF4 hf4)
          have HC4 : Hid (w4.drew.cell? (ad.add k) = some (.int .i64 (i : Int)) ∧ w4.drew.cell? (bd.add k) = some (.int .i64 y)) := Lib.hid (HKP.out w4 hf4)
          have HK2 := Lib.hid (wset_ok w4.drew G q 64 0 due (HH.out.w2.drewN 1) HH.out.tm (by omega) i HI.out y HY.out.1 HY.out.2)
          have HKP2 : Hid (∀ w5 : World, Fr G w4.drew w5 → w5.cell? (ad.add k) = some (.int .i64 (i : Int)) ∧ w5.cell? (bd.add k) = some (.int .i64 y)) := Lib.hid fun w5 hf =>
            ⟨HCA.out w5 ((below_drewN HH.out.bel 1).trans (hf.below HH.out.bel.size HH.out.bG)), HCB.out w5 ((below_drewN HH.out.bel 1).trans (hf.below HH.out.bel.size HH.out.bG))⟩
          clear hW4 hF4 hf4 HK HKP HC0
          go_wp2_with fail
          go_region_held3 (fun w' => w'.cell? (ad.add k) = some (.int .i64 (i : Int)) ∧ w'.cell? (bd.add k) = some (.int .i64 y))
            (first | exact HC4.out | exact HKP2.out _ hf5 | go_keep)
            (first | (go_at_call 9; refine HK2.out.mono ?_; rintro e w5 ⟨rfl, G5, hW5, hG5, hf5⟩))
          all_goals
            have HT5 := Lib.hid ((HH.out.drewN 1).two hW5 hG5 hf5 (HS.out.tm.set HY.out.1 HY.out.2 i))
            clear hW5 hG5 hf5 HK2 HKP2 HC4 HH
            go_wp2_with fail
            go_roundw
            case rel => exact ⟨k + 1, _, F4, G5, by omega, by omega, by go_num, HT5.out⟩
            case measure => simp [intOf]; omega
      · have HX : Hid (x < 0 ∨ 64 ≤ x ∨ y ≤ 0 ∨ 1099511627776 < y) := Lib.hid (by omega)
        have HK := Lib.hid (wset_bad wr.drew F p 64 0 due (HS.out.v1.drewN 1) x y HX.out)
        clear hok
        go_wp2_with fail
        go_region_held3 (fun w' => w'.cell? (ad.add k) = some (.int .i64 x) ∧ w'.cell? (bd.add k) = some (.int .i64 y))
          (first | exact HC0.out | go_keep)
          (first | (go_at_call 9; refine HK.out.mono ?_; rintro e w4 ⟨rfl, h4⟩; subst w4))
        all_goals
          have HC4 : Hid (wr.drew.drew.cell? (ad.add k) = some (.int .i64 x) ∧ wr.drew.drew.cell? (bd.add k) = some (.int .i64 y)) := Lib.hid HC0.out
          have HK2 := Lib.hid (wset_bad wr.drew.drew G q 64 0 due ((HS.out.w2.drewN 1).drewN 1) x y HX.out)
          clear HK HC0
          go_wp2_with fail
          go_region_held3 (fun w' => w'.cell? (ad.add k) = some (.int .i64 x) ∧ w'.cell? (bd.add k) = some (.int .i64 y))
            (first | exact HC4.out | go_keep)
            (first | (go_at_call 9; refine HK2.out.mono ?_; rintro e w4 ⟨rfl, h4⟩; subst w4))
          all_goals
            clear HK2 HC4
            go_wp2_with fail
            go_roundw
            case rel => exact ⟨k + 1, due, F, G, by omega, by omega, by go_num, (HS.out.drewN 1).drewN 1⟩
            case measure => simp [intOf]; omega
    · by_cases hl1 : k < n
      · have hl1' : (k : Int) < n := by omega
        have hl2 : ¬ k < m := fun e => hlt ⟨hl1, e⟩
        have hl2' : ¬ (k : Int) < m := by omega
        clear hlt
        by_cases ha : 0 ≤ a ∧ a ≤ 1099511627776
        · have HK := Lib.hid (wtick_ok wr F p 64 0 due HS.out.v1 HS.out.tm a ha.1 ha.2)
          have HT1 := Lib.hid (HS.out.tm.tick ha.1 ha.2)
          have ha0 : ¬ a < 0 := by omega
          by_cases hb : a ≤ b ∧ b ≤ 1099511627776
          · have HBB := Lib.hid hb
            have HAA := Lib.hid ha
            clear ha hb ha0
            go_wp2_with fail
            refine HK.out.mono ?_
            rintro e w4 ⟨A4, c4, rfl, hv4, hW4, hf4⟩
            have HV4 := Lib.hid hv4
            have HB4 : Hid (Below w.heap.size w w4) := Lib.hid (HS.out.bel.trans (hf4.below HS.out.bel.size HS.out.bF))
            have HZ4 : Hid (wr.heap.size ≤ w4.heap.size) := Lib.hid hf4.size
            have HG4 := Lib.hid (HS.out.w2.keep hf4 (fun k hk e => HS.out.ap k e hk))
            have HK2 := Lib.hid (wtick_ok w4 F p 64 a (afterD due a) hW4 HT1.out b HBB.out.1 HBB.out.2)
            rw [afterD_afterD HBB.out.1] at HK2
            clear HK hv4 hW4 hf4
            go_wp2_with fail
            refine HK2.out.mono ?_
            rintro e w5 ⟨A5, c5, rfl, hv5, hW5, hf5⟩
            have HV5 := Lib.hid (hv5.lift HZ4.out)
            have HV45 := Lib.hid (HV4.out.same fun k h1 h2 => hf5.block k h2 fun e => by have := HS.out.v1.lt k e; omega)
            have HB5 : Hid (Below w.heap.size w w5) := Lib.hid (HB4.out.trans (hf5.below HB4.out.size HS.out.bF))
            have HG5 := Lib.hid (HG4.out.keep hf5 (fun k hk e => HS.out.ap k e hk))
            have HF5 := Lib.hid hW5
            have HZ5 : Hid (wr.heap.size ≤ w5.heap.size) := Lib.hid (Nat.le_trans HZ4.out hf5.size)
            have HK3 := Lib.hid (wtick_ok w5 G q 64 0 due HG5.out HS.out.tm b (by have := HBB.out; have := HAA.out; omega) HBB.out.2)
            clear HK2 hv5 hW5 hf5
            go_wp2_with fail
            refine HK3.out.mono ?_
            rintro e w6 ⟨A6, c6, rfl, hv6, hW6, hf6⟩
            have HV6 := Lib.hid (hv6.lift HZ5.out)
            have HV46 := Lib.hid (HV45.out.same fun k h1 h2 => hf6.block k h2 fun e => by have := HS.out.w2.lt k e; omega)
            have HV56 := Lib.hid (HV5.out.same fun k h1 h2 => hf6.block k h2 fun e => by have := HS.out.w2.lt k e; omega)
            have HB6 : Hid (Below w.heap.size w w6) := Lib.hid (HB5.out.trans (hf6.below HB5.out.size HS.out.bG))
            have HF6 := Lib.hid (HF5.out.keep hf6 (fun k hk e => HS.out.ap k hk e))
            have HG6 := Lib.hid hW6
            clear HK3 hv6 hW6 hf6
            have hl1 := dueL_le due a
            have hl2 := dueL_le (afterD due a) b
            have hl3 := dueL_le due b
            have hst := dueL_steps (due := due) HBB.out.1
            obtain ⟨L1, hL1⟩ : ∃ L1, dueL due a = L1 := ⟨_, rfl⟩
            obtain ⟨L2, hL2⟩ : ∃ L2, dueL (afterD due a) b = L2 := ⟨_, rfl⟩
            rw [hL1] at HV46 hl1 hst ⊢
            rw [hL2] at HV56 hl2 hst ⊢
            rw [← hst] at HV6 hl3 ⊢
            clear hst hL1 hL2 HV4 HV5 HV45 HB4 HB5 HG4 HG5 HF5 HZ4 HZ5
            rw [List.length_append] at HV6 hl3 ⊢
            obtain ⟨_, _, e', hx4⟩ := HV46.out.vec
            cases e'
            obtain ⟨_, _, e', hx5⟩ := HV56.out.vec
            cases e'
            obtain ⟨_, _, e', hx6⟩ := HV6.out.vec
            cases e'
            obtain ⟨n4, hn4⟩ : ∃ n4, L1.length = n4 := ⟨_, rfl⟩
            obtain ⟨n5, hn5⟩ : ∃ n5, L2.length = n5 := ⟨_, rfl⟩
            have HX4 := Lib.hid hx4
            have HX5 := Lib.hid hx5
            have HX6 := Lib.hid hx6
            have HN4 := Lib.hid hn4
            rw [hn4] at HX4 HX6 hl1 hl3 ⊢
            rw [hn5] at HX5 HX6 hl2 hl3 ⊢
            have HL3 := Lib.hid hl3
            clear hx4 hx5 hx6 HV46 HV56 HV6 hn4 hn5 hl1 hl2 hl3
            go_wp2_with (first
              | (at_builtin; refine wpList_copy_any rfl (.tmp 104) (.tmp 105) rfl w6.heap.size _ rfl (OwnV.empty w6 _ (Nat.le_refl _) _) A4 n4 c4 _ rfl (HX4.out.keep ((Below.refl _ _).alloc (Nat.le_refl _) _)) (by have := HL3.out; omega) (by simp) ?_; intro B7 d7 w7 hT7 hb7
                 have HB7 : Hid (Below w6.heap.size w6 w7) := Lib.hid (((Below.refl _ _).alloc (Nat.le_refl _) _).trans hb7)
                 have HT7 := Lib.hid hT7
                 clear hT7 hb7)
              | (at_builtin; refine wpList_append_any rfl (.tmp 106) (.tmp 107) rfl w6.heap.size _ n4 _ rfl HT7.out A5 n5 c5 _ rfl (HX5.out.keep HB7.out) (by have := HL3.out; omega) HB7.out.size ?_; intro B8 d8 w8 hT8 hb8
                 have HB8 : Hid (Below w6.heap.size w6 w8) := Lib.hid (HB7.out.trans hb8)
                 have HT8 := Lib.hid hT8
                 clear hT8 hb8))
            obtain ⟨_, _, e', hx8⟩ := HT8.out.vec
            cases e'
            refine (ints_walk _ A6 (n4 + n5) (n4 + n5) _ c6 _ _ w8 hx8 (HX6.out.keep HB8.out) (by have := HL3.out; omega) (by have := HL3.out; omega) true ⟨fun _ => ⟨rfl, fun i _ => ?_⟩, fun _ => rfl⟩).mono ?_
            · rw [← HN4.out]
              exact (nth_append L1 L2 i).symm
            · rintro e w9 ⟨rfl, k9, h9⟩
              subst w9
              have HF9 := Lib.hid ((HF6.out.below HB8.out).drewN k9)
              have HG9 := Lib.hid ((HG6.out.below HB8.out).drewN k9)
              have HB9 : Hid (Below w.heap.size w (w8.drewN k9)) := Lib.hid (below_drewN (keep HB6.out HB8.out) k9)
              clear hx8 HX4 HX5 HX6 HB7 HT7 HT8 HB8 HB6 HF6 HG6
              obtain ⟨w9, hw9⟩ : ∃ w9, w8.drewN k9 = w9 := ⟨_, rfl⟩
              rw [hw9] at HF9 HG9 HB9 ⊢
              clear hw9
              have HKa := Lib.hid (wlen_walk w9 F p 64 b (afterD due b) HF9.out)
              have h64 := cntD_le (afterD due b)
              obtain ⟨z, hz⟩ : ∃ z, cntD (afterD due b) = z := ⟨_, rfl⟩
              rw [hz] at HKa h64
              have HZ := Lib.hid hz
              clear hz
              go_wp2_with fail
              refine HKa.out.mono ?_
              rintro e w10 ⟨rfl, hb10⟩
              have HKb := Lib.hid (wlen_walk w10 G q 64 b (afterD due b) (HG9.out.below hb10))
              rw [HZ.out] at HKb
              have HB10 := Lib.hid (keep HB9.out hb10)
              clear hb10 HKa
              go_wp2_with fail
              refine HKb.out.mono ?_
              rintro e w11 ⟨rfl, hb11⟩
              have HB11 := Lib.hid (keep HB10.out hb11)
              clear hb11 HKb
              go_wp2_with fail
              go_ret
              exact ⟨rfl, HB11.out⟩
          · have HBB := Lib.hid hb
            clear ha hb
            go_wp2_with fail
            refine HK.out.mono ?_
            rintro e w4 ⟨A4, c4, rfl, hv4, hW4, hf4⟩
            have HB4 : Hid (Below w.heap.size w w4) := Lib.hid (HS.out.bel.trans (hf4.below HS.out.bel.size HS.out.bF))
            have HG4 := Lib.hid (HS.out.w2.keep hf4 (fun k hk e => HS.out.ap k e hk))
            have HK2 := Lib.hid (wtick_bad w4 F p 64 a (afterD due a) hW4 b (by have := HBB.out; omega))
            have HK3 := Lib.hid (wtick_any w4 G q 64 0 due HG4.out HS.out.tm b)
            clear HK hv4 hW4 hf4
            go_wp2_with fail
            refine HK2.out.mono ?_
            rintro e w5 ⟨rfl, h5⟩
            subst w5
            clear HK2
            go_wp2_with fail
            refine HK3.out.mono ?_
            rintro e w6 ⟨A6, n6, c6, r6, rfl, hr6, hf6⟩
            have HB6 : Hid (Below w.heap.size w w6) := Lib.hid (HB4.out.trans (hf6.below HB4.out.size HS.out.bG))
            clear HK3 hr6 hf6
            by_cases hba : b < a
            · go_wp2_with fail
              go_ret
              exact ⟨rfl, HB6.out⟩
            · have hbm : 1099511627776 < b := by have := HBB.out; omega
              go_wp2_with fail
              go_ret
              exact ⟨rfl, HB6.out⟩
        · have HK := Lib.hid (wtick_bad wr F p 64 0 due HS.out.v1 a (by omega))
          have HK2 := Lib.hid (wtick_any wr F p 64 0 due HS.out.v1 HS.out.tm b)
          have HAA := Lib.hid ha
          clear ha
          go_wp2_with fail
          refine HK.out.mono ?_
          rintro e w4 ⟨rfl, h4⟩
          subst w4
          clear HK
          go_wp2_with fail
          refine HK2.out.mono ?_
          rintro e w5 ⟨A5, n5, c5, r5, rfl, hr5, hf5⟩
          have HB5 : Hid (Below w.heap.size w w5) := Lib.hid (HS.out.bel.trans (hf5.below HS.out.bel.size HS.out.bF))
          have HK3 := Lib.hid (wtick_any w5 G q 64 0 due (HS.out.w2.keep hf5 (fun k hk e => HS.out.ap k e hk)) HS.out.tm b)
          clear HK2 hr5 hf5
          go_wp2_with fail
          refine HK3.out.mono ?_
          rintro e w6 ⟨A6, n6, c6, r6, rfl, hr6, hf6⟩
          have HB6 : Hid (Below w.heap.size w w6) := Lib.hid (HB5.out.trans (hf6.below HB5.out.size HS.out.bG))
          clear HK3 hr6 hf6
          by_cases ha0 : a < 0
          · go_wp2_with fail
            go_ret
            exact ⟨rfl, HB6.out⟩
          · by_cases hba : b < a
            · go_wp2_with fail
              go_ret
              exact ⟨rfl, HB6.out⟩
            · have hbm : 1099511627776 < b := by have := HAA.out; omega
              go_wp2_with fail
              go_ret
              exact ⟨rfl, HB6.out⟩
      · have hl1' : ¬ (k : Int) < n := by omega
        clear hlt
        by_cases ha : 0 ≤ a ∧ a ≤ 1099511627776
        · have HK := Lib.hid (wtick_ok wr F p 64 0 due HS.out.v1 HS.out.tm a ha.1 ha.2)
          have HT1 := Lib.hid (HS.out.tm.tick ha.1 ha.2)
          have ha0 : ¬ a < 0 := by omega
          by_cases hb : a ≤ b ∧ b ≤ 1099511627776
          · have HBB := Lib.hid hb
            have HAA := Lib.hid ha
            clear ha hb ha0
            go_wp2_with fail
            refine HK.out.mono ?_
            rintro e w4 ⟨A4, c4, rfl, hv4, hW4, hf4⟩
            have HV4 := Lib.hid hv4
            have HB4 : Hid (Below w.heap.size w w4) := Lib.hid (HS.out.bel.trans (hf4.below HS.out.bel.size HS.out.bF))
            have HZ4 : Hid (wr.heap.size ≤ w4.heap.size) := Lib.hid hf4.size
            have HG4 := Lib.hid (HS.out.w2.keep hf4 (fun k hk e => HS.out.ap k e hk))
            have HK2 := Lib.hid (wtick_ok w4 F p 64 a (afterD due a) hW4 HT1.out b HBB.out.1 HBB.out.2)
            rw [afterD_afterD HBB.out.1] at HK2
            clear HK hv4 hW4 hf4
            go_wp2_with fail
            refine HK2.out.mono ?_
            rintro e w5 ⟨A5, c5, rfl, hv5, hW5, hf5⟩
            have HV5 := Lib.hid (hv5.lift HZ4.out)
            have HV45 := Lib.hid (HV4.out.same fun k h1 h2 => hf5.block k h2 fun e => by have := HS.out.v1.lt k e; omega)
            have HB5 : Hid (Below w.heap.size w w5) := Lib.hid (HB4.out.trans (hf5.below HB4.out.size HS.out.bF))
            have HG5 := Lib.hid (HG4.out.keep hf5 (fun k hk e => HS.out.ap k e hk))
            have HF5 := Lib.hid hW5
            have HZ5 : Hid (wr.heap.size ≤ w5.heap.size) := Lib.hid (Nat.le_trans HZ4.out hf5.size)
            have HK3 := Lib.hid (wtick_ok w5 G q 64 0 due HG5.out HS.out.tm b (by have := HBB.out; have := HAA.out; omega) HBB.out.2)
            clear HK2 hv5 hW5 hf5
            go_wp2_with fail
            refine HK3.out.mono ?_
            rintro e w6 ⟨A6, c6, rfl, hv6, hW6, hf6⟩
            have HV6 := Lib.hid (hv6.lift HZ5.out)
            have HV46 := Lib.hid (HV45.out.same fun k h1 h2 => hf6.block k h2 fun e => by have := HS.out.w2.lt k e; omega)
            have HV56 := Lib.hid (HV5.out.same fun k h1 h2 => hf6.block k h2 fun e => by have := HS.out.w2.lt k e; omega)
            have HB6 : Hid (Below w.heap.size w w6) := Lib.hid (HB5.out.trans (hf6.below HB5.out.size HS.out.bG))
            have HF6 := Lib.hid (HF5.out.keep hf6 (fun k hk e => HS.out.ap k hk e))
            have HG6 := Lib.hid hW6
            clear HK3 hv6 hW6 hf6
            have hl1 := dueL_le due a
            have hl2 := dueL_le (afterD due a) b
            have hl3 := dueL_le due b
            have hst := dueL_steps (due := due) HBB.out.1
            obtain ⟨L1, hL1⟩ : ∃ L1, dueL due a = L1 := ⟨_, rfl⟩
            obtain ⟨L2, hL2⟩ : ∃ L2, dueL (afterD due a) b = L2 := ⟨_, rfl⟩
            rw [hL1] at HV46 hl1 hst ⊢
            rw [hL2] at HV56 hl2 hst ⊢
            rw [← hst] at HV6 hl3 ⊢
            clear hst hL1 hL2 HV4 HV5 HV45 HB4 HB5 HG4 HG5 HF5 HZ4 HZ5
            rw [List.length_append] at HV6 hl3 ⊢
            obtain ⟨_, _, e', hx4⟩ := HV46.out.vec
            cases e'
            obtain ⟨_, _, e', hx5⟩ := HV56.out.vec
            cases e'
            obtain ⟨_, _, e', hx6⟩ := HV6.out.vec
            cases e'
            obtain ⟨n4, hn4⟩ : ∃ n4, L1.length = n4 := ⟨_, rfl⟩
            obtain ⟨n5, hn5⟩ : ∃ n5, L2.length = n5 := ⟨_, rfl⟩
            have HX4 := Lib.hid hx4
            have HX5 := Lib.hid hx5
            have HX6 := Lib.hid hx6
            have HN4 := Lib.hid hn4
            rw [hn4] at HX4 HX6 hl1 hl3 ⊢
            rw [hn5] at HX5 HX6 hl2 hl3 ⊢
            have HL3 := Lib.hid hl3
            clear hx4 hx5 hx6 HV46 HV56 HV6 hn4 hn5 hl1 hl2 hl3
            go_wp2_with (first
              | (at_builtin; refine wpList_copy_any rfl (.tmp 104) (.tmp 105) rfl w6.heap.size _ rfl (OwnV.empty w6 _ (Nat.le_refl _) _) A4 n4 c4 _ rfl (HX4.out.keep ((Below.refl _ _).alloc (Nat.le_refl _) _)) (by have := HL3.out; omega) (by simp) ?_; intro B7 d7 w7 hT7 hb7
                 have HB7 : Hid (Below w6.heap.size w6 w7) := Lib.hid (((Below.refl _ _).alloc (Nat.le_refl _) _).trans hb7)
                 have HT7 := Lib.hid hT7
                 clear hT7 hb7)
              | (at_builtin; refine wpList_append_any rfl (.tmp 106) (.tmp 107) rfl w6.heap.size _ n4 _ rfl HT7.out A5 n5 c5 _ rfl (HX5.out.keep HB7.out) (by have := HL3.out; omega) HB7.out.size ?_; intro B8 d8 w8 hT8 hb8
                 have HB8 : Hid (Below w6.heap.size w6 w8) := Lib.hid (HB7.out.trans hb8)
                 have HT8 := Lib.hid hT8
                 clear hT8 hb8))
            obtain ⟨_, _, e', hx8⟩ := HT8.out.vec
            cases e'
            refine (ints_walk _ A6 (n4 + n5) (n4 + n5) _ c6 _ _ w8 hx8 (HX6.out.keep HB8.out) (by have := HL3.out; omega) (by have := HL3.out; omega) true ⟨fun _ => ⟨rfl, fun i _ => ?_⟩, fun _ => rfl⟩).mono ?_
            · rw [← HN4.out]
              exact (nth_append L1 L2 i).symm
            · rintro e w9 ⟨rfl, k9, h9⟩
              subst w9
              have HF9 := Lib.hid ((HF6.out.below HB8.out).drewN k9)
              have HG9 := Lib.hid ((HG6.out.below HB8.out).drewN k9)
              have HB9 : Hid (Below w.heap.size w (w8.drewN k9)) := Lib.hid (below_drewN (keep HB6.out HB8.out) k9)
              clear hx8 HX4 HX5 HX6 HB7 HT7 HT8 HB8 HB6 HF6 HG6
              obtain ⟨w9, hw9⟩ : ∃ w9, w8.drewN k9 = w9 := ⟨_, rfl⟩
              rw [hw9] at HF9 HG9 HB9 ⊢
              clear hw9
              have HKa := Lib.hid (wlen_walk w9 F p 64 b (afterD due b) HF9.out)
              have h64 := cntD_le (afterD due b)
              obtain ⟨z, hz⟩ : ∃ z, cntD (afterD due b) = z := ⟨_, rfl⟩
              rw [hz] at HKa h64
              have HZ := Lib.hid hz
              clear hz
              go_wp2_with fail
              refine HKa.out.mono ?_
              rintro e w10 ⟨rfl, hb10⟩
              have HKb := Lib.hid (wlen_walk w10 G q 64 b (afterD due b) (HG9.out.below hb10))
              rw [HZ.out] at HKb
              have HB10 := Lib.hid (keep HB9.out hb10)
              clear hb10 HKa
              go_wp2_with fail
              refine HKb.out.mono ?_
              rintro e w11 ⟨rfl, hb11⟩
              have HB11 := Lib.hid (keep HB10.out hb11)
              clear hb11 HKb
              go_wp2_with fail
              go_ret
              exact ⟨rfl, HB11.out⟩
          · have HBB := Lib.hid hb
            clear ha hb
            go_wp2_with fail
            refine HK.out.mono ?_
            rintro e w4 ⟨A4, c4, rfl, hv4, hW4, hf4⟩
            have HB4 : Hid (Below w.heap.size w w4) := Lib.hid (HS.out.bel.trans (hf4.below HS.out.bel.size HS.out.bF))
            have HG4 := Lib.hid (HS.out.w2.keep hf4 (fun k hk e => HS.out.ap k e hk))
            have HK2 := Lib.hid (wtick_bad w4 F p 64 a (afterD due a) hW4 b (by have := HBB.out; omega))
            have HK3 := Lib.hid (wtick_any w4 G q 64 0 due HG4.out HS.out.tm b)
            clear HK hv4 hW4 hf4
            go_wp2_with fail
            refine HK2.out.mono ?_
            rintro e w5 ⟨rfl, h5⟩
            subst w5
            clear HK2
            go_wp2_with fail
            refine HK3.out.mono ?_
            rintro e w6 ⟨A6, n6, c6, r6, rfl, hr6, hf6⟩
            have HB6 : Hid (Below w.heap.size w w6) := Lib.hid (HB4.out.trans (hf6.below HB4.out.size HS.out.bG))
            clear HK3 hr6 hf6
            by_cases hba : b < a
            · go_wp2_with fail
              go_ret
              exact ⟨rfl, HB6.out⟩
            · have hbm : 1099511627776 < b := by have := HBB.out; omega
              go_wp2_with fail
              go_ret
              exact ⟨rfl, HB6.out⟩
        · have HK := Lib.hid (wtick_bad wr F p 64 0 due HS.out.v1 a (by omega))
          have HK2 := Lib.hid (wtick_any wr F p 64 0 due HS.out.v1 HS.out.tm b)
          have HAA := Lib.hid ha
          clear ha
          go_wp2_with fail
          refine HK.out.mono ?_
          rintro e w4 ⟨rfl, h4⟩
          subst w4
          clear HK
          go_wp2_with fail
          refine HK2.out.mono ?_
          rintro e w5 ⟨A5, n5, c5, r5, rfl, hr5, hf5⟩
          have HB5 : Hid (Below w.heap.size w w5) := Lib.hid (HS.out.bel.trans (hf5.below HS.out.bel.size HS.out.bF))
          have HK3 := Lib.hid (wtick_any w5 G q 64 0 due (HS.out.w2.keep hf5 (fun k hk e => HS.out.ap k e hk)) HS.out.tm b)
          clear HK2 hr5 hf5
          go_wp2_with fail
          refine HK3.out.mono ?_
          rintro e w6 ⟨A6, n6, c6, r6, rfl, hr6, hf6⟩
          have HB6 : Hid (Below w.heap.size w w6) := Lib.hid (HB5.out.trans (hf6.below HB5.out.size HS.out.bG))
          clear HK3 hr6 hf6
          by_cases ha0 : a < 0
          · go_wp2_with fail
            go_ret
            exact ⟨rfl, HB6.out⟩
          · by_cases hba : b < a
            · go_wp2_with fail
              go_ret
              exact ⟨rfl, HB6.out⟩
            · have hbm : 1099511627776 < b := by have := HAA.out; omega
              go_wp2_with fail
              go_ret
              exact ⟨rfl, HB6.out⟩

end Go.Proofs.Ytfdldjlaedfllaa

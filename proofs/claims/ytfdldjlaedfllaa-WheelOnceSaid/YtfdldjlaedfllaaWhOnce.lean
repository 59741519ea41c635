/- WheelOnce: what is set is due at the first tick at its time or behind, not ahead, and never again. For all arguments; no condition. -/
import Derived.Test.YtfdldjlaedfllaaWhUse
import Derived.Test.YtfdldjlaedfllaaTail
import Derived.Deep.RegionHeld3
namespace Go.Proofs.Ytfdldjlaedfllaa
open Go.RowKit Go.Maps
set_option linter.unusedVariables false

theorem doneD_all {due : Nat → Int} {y : Int} (i : Nat) (hi : i < 64) : doneD due (dueL due y) (dueL due y).length i = afterD due y i := by
  unfold doneD afterD isDue
  rw [List.take_of_length_le (Nat.le_refl _)]
  by_cases hm : i ∈ dueL due y
  · rw [if_pos hm, if_pos]
    simpa using (dueL_mem.1 hm).2
  · rw [if_neg hm, if_neg]
    simp only [decide_eq_true_eq]
    exact fun h => hm (dueL_mem.2 ⟨hi, h⟩)

/-- The wheel, and the law's own row of what is due. -/
structure OnceS (w : World) (gd p : Nat) (now : Int) (due : Nat → Int) (F : Nat → Prop) (wr : World) : Prop where
  wh : Wh wr F p 64 now due
  tm : Tm now due
  base : ∀ k, F k → w.heap.size ≤ k
  off : ¬ F gd
  own : w.heap.size ≤ gd
  row : RowP wr gd 3 64 (fun i => .int .i64 (due i))
  bel : Below w.heap.size w wr

section
variable {w wr w' : World} {gd p : Nat} {now : Int} {due due' : Nat → Int} {F F' : Nat → Prop}
theorem OnceS.drewN (h : OnceS w gd p now due F wr) (q : Nat) : OnceS w gd p now due F (wr.drewN q) := ⟨h.wh.drewN q, h.tm, h.base, h.off, h.own, h.row.drewN q, below_drewN h.bel q⟩
/-- An act of the wheel's. -/
theorem OnceS.act (h : OnceS w gd p now due F wr) {now' : Int} (hw : Wh w' F' p 64 now' due') (hF : ∀ k, F' k → F k ∨ wr.heap.size ≤ k) (hf : Fr F wr w') (hr : ∀ i, i < 64 → due' i = due i) (ht : Tm now' due') : OnceS w gd p now' due' F' w' := by
  refine ⟨hw, ht, fun k hk => ?_, fun hk => ?_, h.own, (h.row.of_block (hf.block gd h.row.lt h.off)).congr fun i hi => by rw [hr i hi], h.bel.trans (hf.below h.bel.size h.base)⟩
  · rcases hF k hk with e | e
    · exact h.base k e
    · have := h.bel.size; omega
  · rcases hF gd hk with e | e
    · exact h.off e
    · have := h.row.lt; omega
/-- A time is set, and noted. -/
theorem OnceS.set {now : Int} (h : OnceS w gd p now due F wr) (i : Nat) (y : Int) (hi : i < 64) (hy : now < y ∧ y ≤ 1099511627776) (hw : Wh w' F' p (64 + 1) now (setD due i y)) (hF : ∀ k, F' k → F k ∨ wr.drew.heap.size ≤ k) (hf : Fr F wr.drew w') :
    OnceS w gd p now (setD due i y) F' (w'.drew.setCell ⟨gd, i, none⟩ (.int .i64 y)) := by
  have hng : ¬ F' gd := fun hk => by
    rcases hF gd hk with e | e
    · exact h.off e
    · have := h.row.lt
      exact Nat.lt_irrefl _ (Nat.lt_of_lt_of_le this e)
  refine ⟨(hw.tight.drewN 1).same fun k hk => Below.heap_setCell _ _ _ _ (fun e => hng (by rw [← show k = gd from e]; exact hk)), h.tm.set hy.1 hy.2 i, fun k hk => ?_, hng, h.own, ?_, ?_⟩
  · rcases hF k hk with e | e
    · exact h.base k e
    · exact Nat.le_trans h.bel.size e
  · refine ((((h.row.drewN 1).of_block (w' := w') (hf.block gd h.row.lt h.off)).drewN 1).set i (.int .i64 y)).congr fun k hk => ?_
    unfold upd setD
    split <;> rfl
  · exact ((below_drewN (below_drewN h.bel 1 |>.trans (hf.below h.bel.size h.base)) 1)).setCell h.own _
end

set_option maxRecDepth 100000 in
set_option maxHeartbeats 8000000 in
theorem wheelOnce_walk (A : Option Addr) (n ca : Nat) (f : Nat → Int) (B : Option Addr) (m cb : Nat) (g : Nat → Int) (C : Option Addr) (k cc : Nat) (h : Nat → Int) (w : World)
    (hA : Vec w A n f) (hn : n ≤ 9223372036854775807) (hB : Vec w B m g) (hm : m ≤ 9223372036854775807) (hC : Vec w C k h) (hk : k ≤ 9223372036854775807) :
    Calls Try.prog 3 #[.slice A n ca, .slice B m cb, .slice C k cc] w fun e w' => e = .returned (.bool true) ∧ Below w.heap.size w w' := by
  have HA := Lib.hid hA
  have HBv := Lib.hid hB
  have HCv := Lib.hid hC
  have HNn := Lib.hid hn
  have HMm := Lib.hid hm
  have HKk := Lib.hid hk
  clear hA hB hC hn hm hk
  go_enter Try.func3, Try.ntmps3
  go_wp2_with fail
  refine (wheeled_walk w).mono ?_
  rintro e w1 ⟨rfl, hb1⟩
  have HB1 := Lib.hid hb1
  clear hb1
  go_wp2_with fail
  refine (wnew_walk w1).mono ?_
  rintro e w2 ⟨p, F0, rfl, hW, hF, hb⟩
  have HW2 := Lib.hid hW
  have HF2 := Lib.hid hF
  have HB2 := Lib.hid (keep HB1.out hb)
  have HS2 : Hid (w1.heap.size ≤ w2.heap.size) := Lib.hid hb.size
  clear hW hF hb
  go_wp2_with fail
  refine (refRepeat_walk 0 64 64 rfl w2 (by omega)).mono ?_
  rintro e w3 ⟨v, rfl, hv, hb3⟩
  obtain ⟨gd, cd, rfl, hgd, -, -, hrow⟩ : ∃ gd cd, v = .slice (some ⟨gd, 0, none⟩) 64 cd ∧ w2.heap.size ≤ gd ∧ gd < w3.heap.size ∧ 64 ≤ cd ∧ RowP w3 gd 3 64 fun i => .int .i64 0 := by
    rcases hv.form with ⟨h, _⟩ | h
    · omega
    · exact h
  have HO : Hid (OnceS w gd p 0 (fun _ => 0) F0 w3) := Lib.hid ⟨(HW2.out.below hb3).tight, Tm.start, fun b hb => Nat.le_trans HB1.out.size (HF2.out b hb), fun hb => by have := HW2.out.lt gd hb; omega, Nat.le_trans HB2.out.size hgd, hrow, keep HB2.out hb3⟩
  clear hv hb3 hgd hrow HW2 HF2 HB2 HS2 HB1
  go_wp2_with fail
  go_loopw [10] (fun q wr => ∃ (a : Nat) (due : Nat → Int) (F : Nat → Prop), a ≤ n ∧ a ≤ m ∧ q = .int .i64 a ∧ OnceS w gd p 0 due F wr) (fun q _ => n - (intOf q).toNat)
  case atStart => exact ⟨0, _, F0, by omega, by omega, rfl, HO.out⟩
  case round =>
    obtain ⟨a, due, F, han, ham, rfl, hS⟩ := hrel
    have HS := Lib.hid hS
    clear hS HO
    by_cases hlt : a < n ∧ a < m
    · have hl1 : (a : Int) < n := by omega
      have hl2 : (a : Int) < m := by omega
      have hl1' := hlt.1
      have hl2' := hlt.2
      have han' : a + 1 ≤ 9223372036854775807 := by have := HNn.out; omega
      obtain ⟨ad, eA, had, hca⟩ := HA.out a hlt.1
      obtain ⟨bd, eB, hbd, hcb⟩ := HBv.out a hlt.2
      cases eA
      cases eB
      obtain ⟨x, hx⟩ : ∃ x, f a = x := ⟨_, rfl⟩
      obtain ⟨y, hy⟩ : ∃ y, g a = y := ⟨_, rfl⟩
      rw [hx] at hca
      rw [hy] at hcb
      have HCA : Hid (∀ w' : World, Below w.heap.size w w' → w'.cell? (ad.add a) = some (.int .i64 x)) := Lib.hid fun w' hb => (hb.cell (p := ad.add a) (by rw [block_of_add]; exact had)).trans hca
      have HCB : Hid (∀ w' : World, Below w.heap.size w w' → w'.cell? (bd.add a) = some (.int .i64 y)) := Lib.hid fun w' hb => (hb.cell (p := bd.add a) (by rw [block_of_add]; exact hbd)).trans hcb
      have ha0 := HCA.out wr HS.out.bel
      have hb0 := HCB.out wr HS.out.bel
      have HC0 : Hid (wr.drew.cell? (ad.add a) = some (.int .i64 x) ∧ wr.drew.cell? (bd.add a) = some (.int .i64 y)) := Lib.hid ⟨ha0, hb0⟩
      clear hx hy hca hcb had hbd hlt
      by_cases hok : (0 ≤ x ∧ x < 64) ∧ 0 < y ∧ y ≤ 1099511627776
      · obtain ⟨i, rfl⟩ : ∃ i : Nat, x = i := ⟨x.toNat, by omega⟩
        have hi : i < 64 := by omega
        have hi0 : (0 : Int) ≤ i := by omega
        have hi64 : (i : Int) < 64 := by omega
        have HK := Lib.hid (wset_ok wr.drew F p 64 0 due (HS.out.wh.drewN 1) HS.out.tm (by omega) i hi y hok.2.1 hok.2.2)
        have HKP : Hid (∀ w4 : World, Fr F wr.drew w4 → w4.cell? (ad.add a) = some (.int .i64 (i : Int)) ∧ w4.cell? (bd.add a) = some (.int .i64 y)) := Lib.hid fun w4 hf =>
          ⟨HCA.out w4 ((below_drewN HS.out.bel 1).trans (hf.below HS.out.bel.size HS.out.base)), HCB.out w4 ((below_drewN HS.out.bel 1).trans (hf.below HS.out.bel.size HS.out.base))⟩
        have HY := Lib.hid hok.2
        clear hok ha0 hb0
        go_wp2_with fail
        go_region_held3 (fun w' => w'.cell? (ad.add a) = some (.int .i64 (i : Int)) ∧ w'.cell? (bd.add a) = some (.int .i64 y))
          (first | exact HC0.out | exact HKP.out _ hf4 | go_keep)
          (first | (go_at_call 9; refine HK.out.mono ?_; rintro e w4 ⟨rfl, F4, hW4, hF4, hf4⟩))
        all_goals
          have HX := Lib.hid (HS.out.set i y hi HY.out hW4 hF4 hf4)
          have hx4 := HKP.out w4 hf4
          have c1 : w4.drew.cell? (ad.add a) = some (.int .i64 (i : Int)) := hx4.1
          have c2 : w4.drew.cell? (bd.add a) = some (.int .i64 y) := hx4.2
          have hr4 := HS.out.row.of_block (w' := w4) (hf4.block gd HS.out.row.lt HS.out.off)
          have c3 : w4.drew.cell? ⟨gd, i, none⟩ = some (.int .i64 (due i)) := hr4.cell hi
          have c4 : w4.drew.frozen? ⟨gd, i, none⟩ = false := hr4.frozen i
          clear hW4 hF4 hf4 hx4 hr4 HK HKP HC0
          go_wp2_with fail
          refine wp_region_quiet_tail 10 (by kernel_rfl) (by kernel_rfl) ?_
          simp only [List.take_succ_cons, List.take_zero, List.drop_succ_cons, List.drop_zero]
          repeat (go_big_quiet_step (fail))
          refine wpQuiet_nil ?_
          go_wp2_with fail
          go_roundw
          case rel => exact ⟨a + 1, _, F4, by omega, by omega, by go_num, HX.out⟩
          case measure => simp [intOf]; omega
      · have HK := Lib.hid (wset_bad wr.drew F p 64 0 due (HS.out.wh.drewN 1) x y (by omega))
        clear hok ha0 hb0
        go_wp2_with fail
        go_region_held3 (fun w' => w'.cell? (ad.add a) = some (.int .i64 x) ∧ w'.cell? (bd.add a) = some (.int .i64 y))
          (first | exact HC0.out | go_keep)
          (first | (go_at_call 9; refine HK.out.mono ?_; rintro e w4 ⟨rfl, h4⟩; subst w4))
        all_goals
          clear HK HC0
          go_wp2_with fail
          go_roundw
          case rel => exact ⟨a + 1, due, F, by omega, by omega, by go_num, HS.out.drewN 1⟩
          case measure => simp [intOf]; omega
    · by_cases hl1 : a < n
      · have hl1' : (a : Int) < n := by omega
        have hl2 : ¬ a < m := fun e => hlt ⟨hl1, e⟩
        have hl2' : ¬ (a : Int) < m := by omega
        clear hlt
        go_wp2_with fail
        obtain ⟨wo, hwo⟩ : ∃ wo, wo = wr := ⟨_, rfl⟩
        subst hwo
        go_loopw [11, 12] (fun lv q wr => ∃ (a : Nat) (last : Int) (due : Nat → Int) (F : Nat → Prop), a ≤ k ∧ q = .int .i64 a ∧ lv = .int .i64 last ∧ OnceS w gd p last due F wr) (fun _ q _ => k - (intOf q).toNat)
        case atStart => exact ⟨0, 0, due, F, by omega, rfl, rfl, HS.out⟩
        case round =>
          clear HS
          obtain ⟨b, last, due, F, hbk, rfl, rfl, hS⟩ := hrel
          have HS := Lib.hid hS
          clear hS
          by_cases hlb : b < k
          · have hlb' : (b : Int) < k := by omega
            obtain ⟨cd', eC, hcd, hcc⟩ := HCv.out b hlb
            cases eC
            have hbk' : b + 1 ≤ 9223372036854775807 := by have := HKk.out; omega
            obtain ⟨y, hy⟩ : ∃ y, h b = y := ⟨_, rfl⟩
            rw [hy] at hcc
            have HCC : Hid (∀ w' : World, Below w.heap.size w w' → w'.cell? (cd'.add b) = some (.int .i64 y)) := Lib.hid fun w' hb => (hb.cell (p := cd'.add b) (by rw [block_of_add]; exact hcd)).trans hcc
            have hc0 := HCC.out wr HS.out.bel
            clear hy hcc hcd
            by_cases hok : last ≤ y ∧ y ≤ 1099511627776
            · have HK := Lib.hid (wtick_ok wr F p 64 last due HS.out.wh HS.out.tm y hok.1 hok.2)
              have HY := Lib.hid hok
              clear hok
              go_wp2_with fail
              refine HK.out.mono ?_
              rintro e w4 ⟨A4, c4, rfl, hv4, hW4, hf4⟩
              have h64 := dueL_le due y
              have hnd := dueL_nodup due y
              have hmem := fun i => dueL_mem (due := due) (y := y) (i := i)
              obtain ⟨L, hL⟩ : ∃ L, dueL due y = L := ⟨_, rfl⟩
              rw [hL] at hv4 h64 hnd hmem ⊢
              have HALL := Lib.hid (fun i => doneD_all (due := due) (y := y) i)
              rw [hL] at HALL
              obtain ⟨A5, c5, e5, hvec⟩ := hv4.vec
              cases e5
              have hown4 := hv4.form
              have HMEM := Lib.hid hmem
              have HND := Lib.hid hnd
              obtain ⟨n4, hn4⟩ : ∃ n4, L.length = n4 := ⟨_, rfl⟩
              have HLen := Lib.hid hn4
              rw [hn4] at hvec h64 hown4 ⊢
              have h64' : (n4 : Int) ≤ 64 := by omega
              have HVec := Lib.hid hvec
              have HOwn := Lib.hid hown4
              have HW4 := Lib.hid hW4
              have HF4 := Lib.hid hf4
              have HB4 : Hid (Below w.heap.size w w4) := Lib.hid (HS.out.bel.trans (hf4.below HS.out.bel.size HS.out.base))
              have HR4 := Lib.hid (HS.out.row.of_block (w' := w4) (hf4.block gd HS.out.row.lt HS.out.off))
              clear hv4 hW4 hf4 HK hL hn4 hvec hown4 hmem hnd hc0
              go_wp2_with fail
              go_loopw [15] (fun q wz => ∃ j : Nat, j ≤ n4 ∧ q = .int .i64 j ∧ RowP wz gd 3 64 (fun i => .int .i64 (doneD due L j i)) ∧ Fr (fun b => b = gd) w4 wz) (fun q _ => n4 - (intOf q).toNat)
              case atStart => exact ⟨0, by omega, rfl, HR4.out.congr fun i hi => by simp [doneD], Fr.refl _ _⟩
              case round =>
                obtain ⟨j, hj, rfl, hrow, hfz⟩ := hrel
                have HRow := Lib.hid hrow
                have HFz := Lib.hid hfz
                clear hrow hfz
                have hc0 : wr.cell? (cd'.add b) = some (.int .i64 y) := by
                  have hb4 := HB4.out
                  exact HCC.out wr (hb4.trans (HFz.out.below hb4.size (fun b e => by rw [e]; exact HS.out.own)))
                by_cases hlj : j < n4
                · have hlj' : (j : Int) < n4 := by omega
                  have hkL : j < L.length := by rw [HLen.out]; exact hlj
                  have hdm := (HMEM.out _).1 (nth_mem hkL)
                  have hdd := doneD_at (due := due) HND.out hkL
                  obtain ⟨ad5, e5, hab5, hc5⟩ := HVec.out j hlj
                  cases e5
                  have hg5 : ad5.block ≠ gd := fun e => by
                    rcases HOwn.out with ⟨h0, _⟩ | ⟨g5, c5', ev, hg5, _⟩
                    · omega
                    · cases ev
                      have e : g5 = gd := e
                      have := HS.out.row.lt
                      omega
                  replace hc5 : wr.cell? (ad5.add j) = some (.int .i64 ((nth L j : Nat) : Int)) := HFz.out.cell (a := ad5.add j) (by rw [block_of_add]; exact hg5) hc5
                  obtain ⟨i, hi⟩ : ∃ i, nth L j = i := ⟨_, rfl⟩
                  have HI := Lib.hid hi
                  rw [hi] at hdm hdd hc5
                  have hi64 := hdm.1
                  have hi64' : (i : Int) < 64 := by omega
                  have hi0 : (0 : Int) ≤ i := by omega
                  have htm := HS.out.tm.due i hdm.1
                  have hlo := HS.out.tm.lo
                  have hcr := HRow.out.cell hdm.1
                  have hfr := HRow.out.frozen i
                  obtain ⟨d, hd⟩ : ∃ d, due i = d := ⟨_, rfl⟩
                  rw [hd] at hdm hdd htm
                  rw [hdd] at hcr
                  have hd1 : (d == 0) = false := beq_false_of_ne (by omega)
                  have hd2 : decide (y < d) = false := decide_eq_false (by omega)
                  have hd3 : decide (d ≤ last) = false := decide_eq_false (by omega)
                  clear hi hdm hdd hab5 hg5 hkL hd htm hlo
                  go_wp2_with fail
                  go_quiet (fail)
                  go_wp2_with fail
                  go_roundw
                  case rel =>
                    refine ⟨j + 1, by omega, by go_num, ((HRow.out.drewN nq).set i (.int .i64 0)).congr fun t ht => ?_, HFz.out.trans ((Fr.drewN (F := fun b => b = gd) wr nq).trans (Fr.setCell (F := fun b => b = gd) rfl) fun b e => .inl e) fun b e => .inl e⟩
                    have := doneD_succ (due := due) (L := L) (k := j) (by rw [HLen.out]; exact hlj) t
                    rw [HI.out] at this
                    rw [← this]
                    unfold upd setD
                    split <;> rfl
                  case measure => simp [intOf]; omega
                · obtain rfl : n4 = j := by omega
                  have HRA : Hid (RowP wr gd 3 64 (fun i => .int .i64 (afterD due y i))) := Lib.hid (HRow.out.congr fun i hi => by rw [← HALL.out i hi, HLen.out])
                  have HO5 : Hid (OnceS w gd p y (afterD due y) F wr) := Lib.hid ⟨HW4.out.keep HFz.out (fun b hb e => HS.out.off (e ▸ hb)), HS.out.tm.tick HY.out.1 HY.out.2, HS.out.base, HS.out.off, HS.out.own, HRA.out, HB4.out.trans (HFz.out.below HB4.out.size (fun b e => by rw [e]; exact HS.out.own))⟩
                  clear HRow
                  go_wp2_with fail
                  obtain ⟨w5, hw5⟩ : ∃ w5, w5 = wr := ⟨_, rfl⟩
                  subst hw5
                  go_loopw [16] (fun q wz => ∃ t : Nat, t ≤ 64 ∧ q = .int .i64 t ∧ wz = w5) (fun q _ => 64 - (intOf q).toNat)
                  case atStart => exact ⟨0, by omega, rfl, rfl⟩
                  case round =>
                    obtain ⟨t, ht, rfl, hwz⟩ := hrel
                    subst hwz
                    by_cases hlt4 : t < 64
                    · have hlt4' : (t : Int) < 64 := by omega
                      have hcr := HRA.out.cell hlt4
                      have hno : ¬ (0 < afterD due y t ∧ afterD due y t ≤ y) := by
                        unfold afterD isDue
                        split
                        · omega
                        · rename_i hn
                          simpa using hn
                      obtain ⟨v, hv⟩ : ∃ v, afterD due y t = v := ⟨_, rfl⟩
                      rw [hv] at hcr hno
                      clear hv hc0
                      by_cases h0 : 0 < v
                      · have hd : decide (v ≤ y) = false := decide_eq_false fun e => hno ⟨h0, e⟩
                        clear hno
                        go_wp2_with fail
                        go_roundw
                        case rel => exact ⟨t + 1, by omega, by go_num, trivial⟩
                        case measure => simp [intOf]; omega
                      · have hd : decide (0 < v) = false := decide_eq_false h0
                        clear hno
                        go_wp2_with fail
                        go_roundw
                        case rel => exact ⟨t + 1, by omega, by go_num, trivial⟩
                        case measure => simp [intOf]; omega
                    · obtain rfl : t = 64 := by omega
                      clear hc0
                      go_wp2_with fail
                      go_roundw
                      case rel => exact ⟨b + 1, y, afterD due y, F, by omega, by go_num, rfl, HO5.out⟩
                      case measure => simp [intOf]; omega
            · have HK := Lib.hid (wtick_bad wr F p 64 last due HS.out.wh y (by omega))
              clear hok
              go_wp2_with fail
              refine HK.out.mono ?_
              rintro e w4 ⟨rfl, h4⟩
              subst w4
              go_wp2_with fail
              go_roundw
              case rel => exact ⟨b + 1, last, due, F, by omega, by go_num, rfl, HS.out⟩
              case measure => simp [intOf]; omega
          · have hlb' : ¬ (b : Int) < k := by omega
            go_wp2_with fail
            go_ret
            exact ⟨rfl, HS.out.bel⟩
      · have hl1' : ¬ (a : Int) < n := by omega
        clear hlt
        go_wp2_with fail
        obtain ⟨wo, hwo⟩ : ∃ wo, wo = wr := ⟨_, rfl⟩
        subst hwo
        go_loopw [11, 12] (fun lv q wr => ∃ (a : Nat) (last : Int) (due : Nat → Int) (F : Nat → Prop), a ≤ k ∧ q = .int .i64 a ∧ lv = .int .i64 last ∧ OnceS w gd p last due F wr) (fun _ q _ => k - (intOf q).toNat)
        case atStart => exact ⟨0, 0, due, F, by omega, rfl, rfl, HS.out⟩
        case round =>
          clear HS
          obtain ⟨b, last, due, F, hbk, rfl, rfl, hS⟩ := hrel
          have HS := Lib.hid hS
          clear hS
          by_cases hlb : b < k
          · have hlb' : (b : Int) < k := by omega
            obtain ⟨cd', eC, hcd, hcc⟩ := HCv.out b hlb
            cases eC
            have hbk' : b + 1 ≤ 9223372036854775807 := by have := HKk.out; omega
            obtain ⟨y, hy⟩ : ∃ y, h b = y := ⟨_, rfl⟩
            rw [hy] at hcc
            have HCC : Hid (∀ w' : World, Below w.heap.size w w' → w'.cell? (cd'.add b) = some (.int .i64 y)) := Lib.hid fun w' hb => (hb.cell (p := cd'.add b) (by rw [block_of_add]; exact hcd)).trans hcc
            have hc0 := HCC.out wr HS.out.bel
            clear hy hcc hcd
            by_cases hok : last ≤ y ∧ y ≤ 1099511627776
            · have HK := Lib.hid (wtick_ok wr F p 64 last due HS.out.wh HS.out.tm y hok.1 hok.2)
              have HY := Lib.hid hok
              clear hok
              go_wp2_with fail
              refine HK.out.mono ?_
              rintro e w4 ⟨A4, c4, rfl, hv4, hW4, hf4⟩
              have h64 := dueL_le due y
              have hnd := dueL_nodup due y
              have hmem := fun i => dueL_mem (due := due) (y := y) (i := i)
              obtain ⟨L, hL⟩ : ∃ L, dueL due y = L := ⟨_, rfl⟩
              rw [hL] at hv4 h64 hnd hmem ⊢
              have HALL := Lib.hid (fun i => doneD_all (due := due) (y := y) i)
              rw [hL] at HALL
              obtain ⟨A5, c5, e5, hvec⟩ := hv4.vec
              cases e5
              have hown4 := hv4.form
              have HMEM := Lib.hid hmem
              have HND := Lib.hid hnd
              obtain ⟨n4, hn4⟩ : ∃ n4, L.length = n4 := ⟨_, rfl⟩
              have HLen := Lib.hid hn4
              rw [hn4] at hvec h64 hown4 ⊢
              have h64' : (n4 : Int) ≤ 64 := by omega
              have HVec := Lib.hid hvec
              have HOwn := Lib.hid hown4
              have HW4 := Lib.hid hW4
              have HF4 := Lib.hid hf4
              have HB4 : Hid (Below w.heap.size w w4) := Lib.hid (HS.out.bel.trans (hf4.below HS.out.bel.size HS.out.base))
              have HR4 := Lib.hid (HS.out.row.of_block (w' := w4) (hf4.block gd HS.out.row.lt HS.out.off))
              clear hv4 hW4 hf4 HK hL hn4 hvec hown4 hmem hnd hc0
              go_wp2_with fail
              go_loopw [15] (fun q wz => ∃ j : Nat, j ≤ n4 ∧ q = .int .i64 j ∧ RowP wz gd 3 64 (fun i => .int .i64 (doneD due L j i)) ∧ Fr (fun b => b = gd) w4 wz) (fun q _ => n4 - (intOf q).toNat)
              case atStart => exact ⟨0, by omega, rfl, HR4.out.congr fun i hi => by simp [doneD], Fr.refl _ _⟩
              case round =>
                obtain ⟨j, hj, rfl, hrow, hfz⟩ := hrel
                have HRow := Lib.hid hrow
                have HFz := Lib.hid hfz
                clear hrow hfz
                have hc0 : wr.cell? (cd'.add b) = some (.int .i64 y) := by
                  have hb4 := HB4.out
                  exact HCC.out wr (hb4.trans (HFz.out.below hb4.size (fun b e => by rw [e]; exact HS.out.own)))
                by_cases hlj : j < n4
                · have hlj' : (j : Int) < n4 := by omega
                  have hkL : j < L.length := by rw [HLen.out]; exact hlj
                  have hdm := (HMEM.out _).1 (nth_mem hkL)
                  have hdd := doneD_at (due := due) HND.out hkL
                  obtain ⟨ad5, e5, hab5, hc5⟩ := HVec.out j hlj
                  cases e5
                  have hg5 : ad5.block ≠ gd := fun e => by
                    rcases HOwn.out with ⟨h0, _⟩ | ⟨g5, c5', ev, hg5, _⟩
                    · omega
                    · cases ev
                      have e : g5 = gd := e
                      have := HS.out.row.lt
                      omega
                  replace hc5 : wr.cell? (ad5.add j) = some (.int .i64 ((nth L j : Nat) : Int)) := HFz.out.cell (a := ad5.add j) (by rw [block_of_add]; exact hg5) hc5
                  obtain ⟨i, hi⟩ : ∃ i, nth L j = i := ⟨_, rfl⟩
                  have HI := Lib.hid hi
                  rw [hi] at hdm hdd hc5
                  have hi64 := hdm.1
                  have hi64' : (i : Int) < 64 := by omega
                  have hi0 : (0 : Int) ≤ i := by omega
                  have htm := HS.out.tm.due i hdm.1
                  have hlo := HS.out.tm.lo
                  have hcr := HRow.out.cell hdm.1
                  have hfr := HRow.out.frozen i
                  obtain ⟨d, hd⟩ : ∃ d, due i = d := ⟨_, rfl⟩
                  rw [hd] at hdm hdd htm
                  rw [hdd] at hcr
                  have hd1 : (d == 0) = false := beq_false_of_ne (by omega)
                  have hd2 : decide (y < d) = false := decide_eq_false (by omega)
                  have hd3 : decide (d ≤ last) = false := decide_eq_false (by omega)
                  clear hi hdm hdd hab5 hg5 hkL hd htm hlo
                  go_wp2_with fail
                  go_quiet (fail)
                  go_wp2_with fail
                  go_roundw
                  case rel =>
                    refine ⟨j + 1, by omega, by go_num, ((HRow.out.drewN nq).set i (.int .i64 0)).congr fun t ht => ?_, HFz.out.trans ((Fr.drewN (F := fun b => b = gd) wr nq).trans (Fr.setCell (F := fun b => b = gd) rfl) fun b e => .inl e) fun b e => .inl e⟩
                    have := doneD_succ (due := due) (L := L) (k := j) (by rw [HLen.out]; exact hlj) t
                    rw [HI.out] at this
                    rw [← this]
                    unfold upd setD
                    split <;> rfl
                  case measure => simp [intOf]; omega
                · obtain rfl : n4 = j := by omega
                  have HRA : Hid (RowP wr gd 3 64 (fun i => .int .i64 (afterD due y i))) := Lib.hid (HRow.out.congr fun i hi => by rw [← HALL.out i hi, HLen.out])
                  have HO5 : Hid (OnceS w gd p y (afterD due y) F wr) := Lib.hid ⟨HW4.out.keep HFz.out (fun b hb e => HS.out.off (e ▸ hb)), HS.out.tm.tick HY.out.1 HY.out.2, HS.out.base, HS.out.off, HS.out.own, HRA.out, HB4.out.trans (HFz.out.below HB4.out.size (fun b e => by rw [e]; exact HS.out.own))⟩
                  clear HRow
                  go_wp2_with fail
                  obtain ⟨w5, hw5⟩ : ∃ w5, w5 = wr := ⟨_, rfl⟩
                  subst hw5
                  go_loopw [16] (fun q wz => ∃ t : Nat, t ≤ 64 ∧ q = .int .i64 t ∧ wz = w5) (fun q _ => 64 - (intOf q).toNat)
                  case atStart => exact ⟨0, by omega, rfl, rfl⟩
                  case round =>
                    obtain ⟨t, ht, rfl, hwz⟩ := hrel
                    subst hwz
                    by_cases hlt4 : t < 64
                    · have hlt4' : (t : Int) < 64 := by omega
                      have hcr := HRA.out.cell hlt4
                      have hno : ¬ (0 < afterD due y t ∧ afterD due y t ≤ y) := by
                        unfold afterD isDue
                        split
                        · omega
                        · rename_i hn
                          simpa using hn
                      obtain ⟨v, hv⟩ : ∃ v, afterD due y t = v := ⟨_, rfl⟩
                      rw [hv] at hcr hno
                      clear hv hc0
                      by_cases h0 : 0 < v
                      · have hd : decide (v ≤ y) = false := decide_eq_false fun e => hno ⟨h0, e⟩
                        clear hno
                        go_wp2_with fail
                        go_roundw
                        case rel => exact ⟨t + 1, by omega, by go_num, trivial⟩
                        case measure => simp [intOf]; omega
                      · have hd : decide (0 < v) = false := decide_eq_false h0
                        clear hno
                        go_wp2_with fail
                        go_roundw
                        case rel => exact ⟨t + 1, by omega, by go_num, trivial⟩
                        case measure => simp [intOf]; omega
                    · obtain rfl : t = 64 := by omega
                      clear hc0
                      go_wp2_with fail
                      go_roundw
                      case rel => exact ⟨b + 1, y, afterD due y, F, by omega, by go_num, rfl, HO5.out⟩
                      case measure => simp [intOf]; omega
            · have HK := Lib.hid (wtick_bad wr F p 64 last due HS.out.wh y (by omega))
              clear hok
              go_wp2_with fail
              refine HK.out.mono ?_
              rintro e w4 ⟨rfl, h4⟩
              subst w4
              go_wp2_with fail
              go_roundw
              case rel => exact ⟨b + 1, last, due, F, by omega, by go_num, rfl, HS.out⟩
              case measure => simp [intOf]; omega
          · have hlb' : ¬ (b : Int) < k := by omega
            go_wp2_with fail
            go_ret
            exact ⟨rfl, HS.out.bel⟩

end Go.Proofs.Ytfdldjlaedfllaa

/- The wheel: Tick: the walk. -/
import Derived.Test.YtfdldjlaedfllaaDoorWhDue
import Derived.Laws.IdiomRangeMap
namespace Go.Proofs.YtfdldjlaedfllaaDoor
open Go.RowKit Go.Maps
set_option linter.unusedVariables false

set_option maxRecDepth 100000 in
set_option maxHeartbeats 1000000 in
theorem wtick_bad (w : World) (F : Nat → Prop) (p N : Nat) (now : Int) (due : Nat → Int) (h : Wh w F p N now due) (y : Int) (hy : y < now ∨ 1099511627776 < y) :
    Calls Tryd.prog 12 #[.pointer (some ⟨p, 0, none⟩), .int .i64 y] w fun e w' => e = .returned (.tuple #[.slice none 0 0, errNo 1]) ∧ w' = w := by
  obtain ⟨bA, B, hB, hF⟩ := h
  have c0 := hB.c0
  clear hB hF
  have h2 : y < now ∨ (¬ y < now ∧ 1099511627776 < y) := by omega
  clear hy
  rcases h2 with h2 | ⟨h2, h3⟩
  · go_enter Tryd.func12, Tryd.ntmps12
    go_wp2_with fail
    go_ret2
    exact ⟨rfl, rfl⟩
  · go_enter Tryd.func12, Tryd.ntmps12
    go_wp2_with fail
    go_ret2
    exact ⟨rfl, rfl⟩

/-- The time goes on. -/
theorem WhB.tick {w : World} {p bA N : Nat} {B : Nat → Option Nat} {now : Int} {due : Nat → Int} (h : WhB w p bA B N now due) (y : Int) : WhB (w.setCell ⟨p, 0, none⟩ (.int .i64 y)) p bA B N y due := by
  have blk : ∀ k, k ≠ p → (w.setCell ⟨p, 0, none⟩ (.int .i64 y)).heap[k]? = w.heap[k]? := fun k hne => Below.heap_setCell _ _ _ _ hne
  have coth : ∀ j, j ≠ 0 → (w.setCell ⟨p, 0, none⟩ (.int .i64 y)).cell? ⟨p, j, none⟩ = w.cell? ⟨p, j, none⟩ := fun j hj =>
    World.cell?_setCell_other _ _ _ _ (show (⟨p, 0, none⟩ : Addr) ≠ ⟨p, j, none⟩ from fun e => hj (by injection e with _ e; omega))
  refine ⟨World.cell?_setCell_same' _ _ _ (by rw [h.c0]; rfl), (coth 65 (by omega)).trans h.ca, fun s hs => (coth _ (by omega)).trans (h.cs s hs), fun j => by rw [World.frozen?_setCell]; exact h.fz j, h.at_.same (blk _ h.p_ne), h.no, fun s b hs hb => (h.sl s b hs hb).same (blk b (h.p_ne' hs hb)), h.ne, h.inj⟩

/-- What is due later. -/
def afterD (due : Nat → Int) (y : Int) (i : Nat) : Int := if isDue due y i then 0 else due i

/-- What is due while the first k are cleared. -/
def doneD (due : Nat → Int) (L : List Nat) (k i : Nat) : Int := if i ∈ L.take k then 0 else due i

theorem doneD_at {due : Nat → Int} {L : List Nat} {k : Nat} (hn : L.Nodup) (hk : k < L.length) : doneD due L k (nth L k) = due (nth L k) := by
  unfold doneD nth
  rw [if_neg, List.getD_eq_getElem?_getD, List.getElem?_eq_getElem hk]
  intro hm
  rw [List.getD_eq_getElem?_getD, List.getElem?_eq_getElem hk, Option.getD_some] at hm
  obtain ⟨j, hj, e⟩ := List.getElem_of_mem hm
  rw [List.getElem_take] at e
  have hj' : j < k := by rw [List.length_take] at hj; omega
  rw [List.nodup_iff_pairwise_ne, List.pairwise_iff_getElem] at hn
  exact hn j k (by omega) hk hj' e
theorem doneD_succ {due : Nat → Int} {L : List Nat} {k : Nat} (hk : k < L.length) (i : Nat) : setD (doneD due L k) (nth L k) 0 i = doneD due L (k + 1) i := by
  have e : L.take (k + 1) = L.take k ++ [nth L k] := by
    rw [List.take_succ_eq_append_getElem hk]
    unfold nth
    rw [List.getD_eq_getElem?_getD, List.getElem?_eq_getElem hk]
    rfl
  unfold setD doneD
  rw [e]
  by_cases h : i = nth L k
  · rw [if_pos h, if_pos (by simp [h])]
  · rw [if_neg h]
    simp [h]

attribute [local go_sem high] run_max_pair

set_option maxRecDepth 100000 in
set_option maxHeartbeats 4000000 in
theorem wtick_ok (w : World) (F : Nat → Prop) (p N : Nat) (now : Int) (due : Nat → Int) (h : Wh w F p N now due) (hT : Tm now due) (y : Int) (h1 : now ≤ y) (h2 : y ≤ 1099511627776) :
    Calls Tryd.prog 12 #[.pointer (some ⟨p, 0, none⟩), .int .i64 y] w fun e w' =>
      ∃ A c, e = .returned (.tuple #[.slice A (dueL due y).length c, .nilIface]) ∧ OwnV w' w.heap.size (.slice A (dueL due y).length c) (dueL due y).length (fun k => (nth (dueL due y) k : Int)) ∧ Wh w' F p N y (afterD due y) ∧ Fr F w w' := by
  have HW := Lib.hid h
  obtain ⟨bA, B, hB, hF⟩ := h
  have c0 := hB.c0
  have HB := Lib.hid hB
  have HF := Lib.hid hF
  have HT := Lib.hid hT
  have hn0 := hT.lo
  have hy1 : ¬ y < now := by omega
  have hy2 : ¬ 1099511627776 < y := by omega
  have H1 := Lib.hid h1
  have hw1 : wrap64 (y - 64) = y - 64 := by simp [wrap64]; omega
  have hw2 : wrap64 (y - 64 + 1) = y - 64 + 1 := by simp [wrap64]; omega
  obtain ⟨t0, ht0⟩ : ∃ t0, max now (y - 64 + 1) = t0 := ⟨_, rfl⟩
  have HT0 := Lib.hid ht0
  clear hB hF hT
  go_enter Tryd.func12, Tryd.ntmps12
  go_wp2_with fail
  go_loopw [6, 7] (fun lv tv wr => ∃ (t : Int) (l : List Nat), t0 ≤ t ∧ t ≤ y + 1 ∧ tv = .int .i64 t ∧ Coll due y t0 t l ∧ OwnD wr w.heap.size lv due l ∧ Below w.heap.size w wr) (fun _ tv _ => (y + 1 - intOf tv).toNat)
  case atStart => exact ⟨t0, [], by omega, by have := HT0.out; have := H1.out; omega, rfl, Coll.start due y t0, OwnD.nil _ _ _, Below.refl _ _⟩
  case round =>
    obtain ⟨t, l, ht1, ht2, rfl, hC, hT, hb⟩ := hrel
    have HC := Lib.hid hC
    have HO := Lib.hid hT
    have HL := Lib.hid hb
    clear hC hT hb
    have ht0n : now ≤ t0 := by have := HT0.out; omega
    by_cases hlt : t ≤ y
    · obtain ⟨s, hs⟩ : ∃ s : Nat, t % 64 = s := ⟨(t % 64).toNat, by omega⟩
      have hs64 : s < 64 := by omega
      have hs64' : (s : Int) < 64 := by omega
      have htm : t.tmod 64 = s := by rw [Int.tmod_eq_emod_of_nonneg (by omega)]; exact hs
      have hw3 : wrap64 (t + 1) = t + 1 := by simp [wrap64]; omega
      have hd64 : t - t0 < 64 := by have := HT0.out; omega
      have HS := Lib.hid hs
      have HBr : Hid (WhB wr p bA B N now due) := Lib.hid (HB.out.same fun k e => HL.out.block k (HW.out.lt k ((HF.out k).2 e)))
      have cs := HBr.out.cs s hs64
      obtain ⟨wo, hwo⟩ : ∃ wo, wo = wr := ⟨_, rfl⟩
      subst hwo
      clear hs
      cases hb : B s with
      | none =>
        rw [hb] at cs
        have HN := Lib.hid (HBr.out.no s hs64 hb)
        have hrn := fun W : World => run_range_nilMap (P := Tryd.prog) W 46 3 3 Tryd.underlying46
        have hnx := fun (W : World) (ty : TypeId) => run_next_nilMap (P := Tryd.prog) W ty 0 0 #[]
        have hcall := slot_walk p s t (by omega) HS.out wo
        have HCa := Lib.hid hcall
        clear hb hcall
        go_wp2_with fail
        refine HCa.out.mono ?_
        rintro e w2 ⟨rfl, h2⟩
        subst w2
        clear HCa
        go_wp2_with fail
        refine wp_loop_rounds 1 ?_
        rw [rounds_succ]
        go_wp2_with fail
        go_roundw
        case rel =>
          have hC2 : CollIn due y t0 t (fun _ => false) l := HC.out.into fun i hi h0 hm => by
            have := HN.out i hi
            unfold slotD at this
            rw [if_pos (hm.trans HS.out)] at this
            omega
          exact ⟨t + 1, l, by omega, by omega, rfl, hC2.done ht1 (fun _ _ => rfl), HO.out.alloc _, HL.out.alloc HL.out.size _⟩
        case measure => simp [intOf]; omega
      | some b =>
        rw [hb] at cs
        obtain ⟨D, hown, hD⟩ := HBr.out.sl s b hs64 hb
        have HFb : Hid (F b) := Lib.hid ((HF.out b).2 (.inr (.inr ⟨s, hs64, hb⟩)))
        have HDD := Lib.hid hD
        have hcall := slot_walk p s t (by omega) HS.out wo
        have HCa := Lib.hid hcall
        clear hb hcall hD
        go_wp2_with fail
        refine HCa.out.mono ?_
        rintro e w2 ⟨rfl, h2⟩
        subst w2
        clear HCa
        go_wp2_with (first
          | (at_range; refine wpList_range_own _ rfl _ _ rfl 3 3 keyedI Tryd.underlying46 (plainElem Tryd.prog 3) b N D rfl hown ?_; intro w0 hrg0 hg0 hs0))
        go_frame
        go_loopw [6, 8] (fun lv _ wi => ∃ (left : Lit → Bool) (cnt : Nat) (l2 : List Nat), wi.ranges Tryd.prog 3 (plainElem Tryd.prog 3) b wo.heap.size N D left cnt ∧ CollIn due y t0 t (fun i => left (keyI i)) l2 ∧ OwnD wi w.heap.size lv due l2 ∧ Below w.heap.size w wi) (fun _ _ wi => wi.rangeLeft b wo.heap.size)
        case atStart =>
          refine ⟨_, _, l, hrg0, HC.out.into fun i hi h0 hm => ?_, HO.out.below (Fr.of_grown (F := fun _ => False) hg0 (by simp) |>.below (Nat.le_refl _) (by simp)), HL.out.trans (Fr.of_grown (F := fun _ => False) hg0 (by simp) |>.below HL.out.size (by simp))⟩
          refine (HDD.out.has i hi).2 ?_
          unfold slotD
          rw [if_pos (hm.trans HS.out)]
          omega
        case round =>
          obtain ⟨left, cnt, l2, hrg, hC2, hT2, hb2⟩ := hrel
          have HC2 := Lib.hid hC2
          have HT2 := Lib.hid hT2
          have HB2 := Lib.hid hb2
          clear hC2 hT2 hb2 hrg0 hg0 hs0 hown cs c0 hw1 hw2
          go_wp2_with (at_next; refine wpList_next_ranges_ii _ rfl _ rfl 3 3 .i64 .i64 keyedI Tryd.underlying3 Tryd.underlying3 b wo.heap.size N D left cnt rfl hrg ?_ ?_)
          · intro _ hl0
            have HL0 := Lib.hid hl0
            clear hl0
            go_wp2_with fail
            go_roundw
            case rel => exact ⟨t + 1, l2, by omega, by omega, rfl, HC2.out.done ht1 (fun i _ => HL0.out (keyI i)), HT2.out, HB2.out⟩
            case measure => simp [intOf]; omega
          · intro x c w1 cnt1 hwx hwc hlx hat hrg1 hlt1 hg1 hs1 hen
            obtain ⟨i, hi, ex⟩ := HDD.out.only _ (has_true_of_atKey hat)
            obtain rfl : x = (i : Int) := by injection ex
            have hne := (HDD.out.has i hi).1 (has_true_of_atKey hat)
            have hcv := (HDD.out.at_ i hi hne (.lit (.int .i64 0))).symm.trans (hat _)
            obtain rfl : c = slotD due s i := by injection hcv with hcv; injection hcv with _ hcv; exact hcv.symm
            have hsl : due i % 64 = s ∧ slotD due s i = due i := by
              unfold slotD at hne ⊢
              split at hne
              · exact ⟨by assumption, if_pos (by assumption)⟩
              · exact absurd rfl hne
            rw [hsl.2] at hen ⊢
            have hpos : 0 < due i := by
              have := HT.out.due i hi
              rw [hsl.2] at hne
              omega
            obtain ⟨d, hdd⟩ : ∃ d, due i = d := ⟨_, rfl⟩
            have HDE := Lib.hid hdd
            have HSL := Lib.hid hsl.1
            have HPO := Lib.hid hpos
            have HLX := Lib.hid hlx
            have HLT := Lib.hid hlt1
            have HR1 := Lib.hid hrg1
            have HG1 := Lib.hid hg1
            rw [hdd] at hen ⊢
            clear hat hne hcv hsl ex hdd hpos hlx hlt1 hrg1 hg1 hs1 hwx hwc
            have hr : Fr (fun k => w.heap.size ≤ k) wr w1 := Fr.of_grown HG1.out (fun k e => by cases e; exact HL.out.size)
            have HT1 : Hid (OwnD w1 w.heap.size u6 due l2) := Lib.hid (HT2.out.same fun g hg => HG1.out.block g (HT2.out.own g hg).2 (by
              intro e
              have e := Option.some.inj e
              subst e
              rcases HT2.out.2 with ⟨hv, _⟩ | ⟨g, cap, cur, hv, _, hg', _⟩
              · rw [hv] at hg; cases hg
              · rw [hv] at hg
                have e2 := Option.some.inj hg
                have e2 : g = wo.heap.size := e2
                rw [e2] at hg'
                obtain ⟨es, clock, since, seen, c0, _, _, _, _, hit, _⟩ := hrg
                rw [hg'] at hit
                cases hit))
            have HB1 : Hid (Below w.heap.size w w1) := Lib.hid (HB2.out.trans (hr.below HB2.out.size (fun k e => e)))
            have HRG := Lib.hid hrg
            have hlen := HC2.out.len
            clear hr hrg HT2 HB2 HG1
            by_cases hle : d ≤ y
            · go_wp2_with (at_builtin; refine wpList_append_due rfl (.tmp 52) (.tmp 56) rfl w.heap.size _ due l2 rfl (HT1.out.alloc _) i _ rfl (by rw [HDE.out]; exact cell_new2_at _ _ _ _ rfl) (by omega) (by have := HB1.out.size; simp; omega) ?_)
              intro g cap w3 hT3 hb3 hg3
              have HT3 := Lib.hid hT3
              have HB3 : Hid (Below w.heap.size w w3) := Lib.hid ((HB1.out.alloc HB1.out.size _).trans hb3)
              have HR3 := Lib.hid ((HR1.out.alloc (.cells #[.int .i64 d, .int .i64 i] 56)).kept hg3 (by
                intro e
                have h3 := HT1.out.own b e.symm
                have := HW.out.lt b HFb.out
                omega) (by
                intro e
                rcases HT1.out.2 with ⟨hv, _⟩ | ⟨g, cap, cur, hv, _, hg', _⟩
                · rw [hv] at e; cases e
                · rw [hv] at e
                  have e2 := Option.some.inj e
                  have e2 : wo.heap.size = g := e2
                  rw [← e2] at hg'
                  obtain ⟨es, clock, since, seen, c0, _, _, _, _, hit, _⟩ := HR1.out
                  rw [hg'] at hit
                  cases hit))
              have HL2 := Lib.hid hlen
              clear hT3 hb3 hg3 hen hlen
              go_wp2_with fail
              go_roundw
              case rel =>
                exact ⟨_, cnt1, l2 ++ [i], HR3.out, HC2.out.add hi HPO.out (by rw [HDE.out]; exact hle) (HSL.out.trans HS.out.symm) HLX.out hd64 (fun j hj => by rw [sameKeyI]), HT3.out, HB3.out⟩
              case measure => rw [HR3.out.left_eq, HRG.out.left_eq]; exact HLT.out
            · have hd : decide (d ≤ y) = false := decide_eq_false hle
              clear hlen
              go_wp2_with fail
              go_roundw
              case rel =>
                exact ⟨_, cnt1, l2, HR1.out, HC2.out.skip hi (by have := HDE.out; omega) (fun j hj => by rw [sameKeyI]), HT1.out, HB1.out⟩
              case measure => rw [HR1.out.left_eq, HRG.out.left_eq]; exact HLT.out
    · obtain rfl : t = y + 1 := by omega
      have hall := HC.out.all HT.out HT0.out.symm
      have HA := Lib.hid hall
      have HWr : Hid (WhB wr p bA B N now due) := Lib.hid (HB.out.same fun k e => HL.out.block k (HW.out.lt k ((HF.out k).2 e)))
      have hc0 := HWr.out.c0
      have hfz := HWr.out.fz 0
      have hW2 := HWr.out.tick y
      have hf2 : Fr F w (wr.setCell ⟨p, 0, none⟩ (.int .i64 y)) := (Fr.of_below (F := F) HL.out (fun k h1 h2 => by omega)).trans (Fr.setCell (F := F) ((HF.out p).2 (.inl rfl))) fun k e => .inl e
      obtain ⟨A, c, e6, hcells⟩ := HO.out.cell
      subst e6
      have hdu : decide (y + 1 ≤ y) = false := decide_eq_false (by omega)
      have HCl := Lib.hid hcells
      have HW2 := Lib.hid hW2
      have HF2 := Lib.hid hf2
      clear hall hW2 hf2 hcells c0
      have hlenL : (dueL due y).length = l.length := ((perm_of_mem HC.out.nodup HA.out).trans (dueL_perm due y).symm).length_eq.symm
      by_cases hl0 : l = []
      · subst hl0
        have hL0 : dueL due y = [] := List.eq_nil_of_length_eq_zero hlenL
        have HL0 := Lib.hid hL0
        clear hL0 hlenL
        go_wp2_with fail
        refine (wsort_none A c _ _).mono ?_
        rintro e w2 ⟨rfl, h3⟩
        subst w2
        go_wp2_with fail
        refine wp_loop_rounds 1 ?_
        rw [rounds_succ]
        go_wp2_with fail
        go_ret2
        refine ⟨none, 0, by rw [HL0.out]; rfl, by rw [HL0.out]; exact OwnV.nil _ _ _, ⟨bA, B, HW2.out.congr fun i hi => ?_, HF.out⟩, HF2.out⟩
        unfold afterD isDue
        rw [if_neg]
        simp only [decide_eq_true_eq]
        intro h
        have := (HA.out i).2 ⟨hi, h⟩
        simp at this
      · obtain ⟨g, eA, hg1, hg2, hcells⟩ := HCl.out hl0
        subst eA
        have hgp : g ≠ p := by have := HW.out.lt p ((HF.out p).2 (.inl rfl)); omega
        have hcs : ∀ k, k < l.length * 2 → (wr.setCell ⟨p, 0, none⟩ (.int .i64 y)).cell? ⟨g, k, none⟩ = some (cellD due l k) ∧ (wr.setCell ⟨p, 0, none⟩ (.int .i64 y)).frozen? ⟨g, k, none⟩ = false := fun k hk => by
          refine ⟨(World.cell?_of_block (Below.heap_setCell _ _ _ _ hgp)).trans (hcells k hk).1, ?_⟩
          rw [World.frozen?_setCell]
          exact (hcells k hk).2
        have hcall := wsort_walk HT.out HC.out.nodup HA.out g c (wr.setCell ⟨p, 0, none⟩ (.int .i64 y)) hcs (by simpa using hg2)
        have HCa := Lib.hid hcall
        have HLen := Lib.hid hlenL
        have HG := Lib.hid hg1
        have HG2 := Lib.hid hg2
        clear hcall hcs hcells hlenL hgp hg1 hg2
        obtain ⟨n, hn⟩ : ∃ n, l.length = n := ⟨_, rfl⟩
        rw [hn] at HCa HLen ⊢
        have hn64 : n ≤ 64 := by rw [← hn]; exact HC.out.len
        have hn64' : (n : Int) ≤ 64 := by omega
        clear hn HCl
        go_wp2_with fail
        refine HCa.out.mono ?_
        rintro e w3 ⟨rfl, hfr, hcell⟩
        have HF3 := Lib.hid (HF2.out.trans hfr fun k e => by rw [e]; exact .inr HG.out)
        have HW3 : Hid (Wh w3 F p N y due) := Lib.hid (Wh.keep ⟨bA, B, HW2.out, HF.out⟩ hfr fun k hk e => by
          have := HW.out.lt k hk
          have := HG.out
          omega)
        have HC3 := Lib.hid hcell
        have HGs : Hid (g < w3.heap.size) := Lib.hid (Nat.lt_of_lt_of_le HG2.out (by have := hfr.size; simpa using this))
        clear HCa hfr hcell
        go_wp2_with fail
        obtain ⟨L, hL⟩ : ∃ L, dueL due y = L := ⟨_, rfl⟩
        have HLL := Lib.hid hL
        rw [hL] at HLen HC3
        clear hL
        go_loopw [10, 66] (fun ov kv wz => ∃ k : Nat, k ≤ n ∧ kv = .int .i64 k ∧ OwnV wz w3.heap.size ov k (fun j => (nth L j : Int)) ∧ Wh wz F p N y (doneD due L k) ∧ Fr F w3 wz) (fun _ kv _ => n - (intOf kv).toNat)
        case atStart => exact ⟨0, by omega, rfl, OwnV.nil _ _ _, HW3.out.congr fun i hi => by simp [doneD], Fr.refl _ _⟩
        case round =>
          obtain ⟨k, hk, rfl, hT, hWz, hfz⟩ := hrel
          have HTz := Lib.hid hT
          have HWz := Lib.hid hWz
          have HFz := Lib.hid hfz
          clear hT hWz hfz
          by_cases hlt : k < n
          · have hlt' : (k : Int) < n := by omega
            have hkL : k < L.length := by rw [HLen.out]; exact hlt
            have hmem := nth_mem hkL
            rw [← HLL.out] at hmem
            have hdm := dueL_mem.1 hmem
            rw [HLL.out] at hdm
            have hnd := doneD_at (due := due) (by rw [← HLL.out]; exact dueL_nodup due y) hkL
            obtain ⟨i, hi⟩ : ∃ i, nth L k = i := ⟨_, rfl⟩
            have hgF : ¬ F g := fun e => by have := HW.out.lt g e; have := HG.out; omega
            have e0 : wr.cell? ⟨g, k * 2, none⟩ = some (.int .i64 (due i)) := by
              refine HFz.out.cell hgF ((HC3.out (k * 2) (by omega)).trans ?_)
              unfold cellD
              rw [if_pos (by omega), show k * 2 / 2 = k by omega, hi]
            have e1 : wr.cell? ⟨g, k * 2 + 1, none⟩ = some (.int .i64 (i : Int)) := by
              refine HFz.out.cell hgF ((HC3.out (k * 2 + 1) (by omega)).trans ?_)
              unfold cellD
              rw [if_neg (by omega), show (k * 2 + 1) / 2 = k by omega, hi]
            rw [hi] at hdm hnd
            have HI := Lib.hid hi
            have HD := Lib.hid hdm
            have HN := Lib.hid hnd
            clear hmem hdm hnd hi hgF hkL
            have hw3 : w.heap.size ≤ w3.heap.size := HF3.out.size
            have hwz := HFz.out.size
            have HS3 := Lib.hid hw3
            have HSz := Lib.hid hwz
            clear hw3 hwz
            go_wp2_with (at_builtin; refine wpList_append_int rfl (.tmp 70) (.tmp 73) rfl w3.heap.size _ k _ rfl ((HTz.out.alloc _).alloc _) (i : Int) _ rfl (cell_new_at _ _ _ (by simp)) (by omega) (by have := HSz.out; simp; omega) ?_)
            intro g4 cap4 w4 hT4 hb4 hg4 _
            have HT4 : Hid (OwnV w4 w3.heap.size (.slice (some ⟨g4, 0, none⟩) (k + 1) cap4) (k + 1) (fun j => (nth L j : Int))) := Lib.hid (hT4.congr fun j hj => by
              unfold upd
              split
              · subst j; rw [HI.out]
              · rfl)
            have hfr4 : Fr (fun b => w3.heap.size ≤ b) wr w4 := ((Fr.alloc (F := fun b => w3.heap.size ≤ b) _).trans (Fr.alloc (F := fun b => w3.heap.size ≤ b) _) fun k e => .inl e).trans (Fr.of_below (F := fun b => w3.heap.size ≤ b) hb4 fun k h _ => h) fun k e => .inl e
            have HF4 := Lib.hid (HFz.out.trans hfr4 fun b hb => .inr hb)
            have HW4 := Lib.hid (HWz.out.keep hfr4 fun b hb => by have := HW.out.lt b hb; have := HS3.out; omega)
            have hc4 : w4.cell? ⟨wr.heap.size, 1, none⟩ = some (.int .i64 (i : Int)) := by
              refine hg4.cell (((Blk.new wr 56 #[.int .i64 (due i), .int .i64 (i : Int)]).alloc _).cell 1) ?_
              intro e
              have := (World.ownsRow.lt HTz.out wr.heap.size e.symm).2
              omega
            have HK := Lib.hid (wclear_ok w4 F p N y (doneD due L k) HW4.out i HD.out.1 (by rw [HN.out]; exact HD.out.2.1))
            clear hT4 hb4 hg4 hfr4 e0 e1
            go_wp2_with fail
            refine HK.out.mono ?_
            rintro e w5 ⟨rfl, hW5, hf5⟩
            have HT5 := Lib.hid (HT4.out.same fun b h1 h2 => hf5.block b h2 fun e => by have := HW.out.lt b e; have := HS3.out; omega)
            have HF5 := Lib.hid (HF4.out.trans hf5 fun b hb => .inl hb)
            have HW5 := Lib.hid hW5
            clear HK hW5 hf5
            go_wp2_with fail
            go_roundw
            case rel => exact ⟨k + 1, by omega, by go_num, HT5.out, HW5.out.congr fun j hj => by rw [← HI.out]; exact doneD_succ (by rw [HLen.out]; exact hlt) j, HF5.out⟩
            case measure => simp [intOf]; omega
          · obtain rfl : n = k := by omega
            obtain ⟨A5, c5, e5, hv5, hnc5, hcm5, hnil5⟩ := HTz.out.parts
            subst e5
            clear hv5 hnc5 hcm5 hnil5
            go_wp2_with fail
            go_ret2
            rw [HLL.out, HLen.out]
            refine ⟨A5, c5, rfl, HTz.out.lift HF3.out.size, HWz.out.congr fun i hi => ?_, HF3.out.trans HFz.out fun b hb => .inl hb⟩
            have e : L.take n = L := List.take_of_length_le (by rw [HLen.out]; exact Nat.le_refl _)
            unfold doneD afterD isDue
            rw [e, ← HLL.out]
            by_cases hm : i ∈ dueL due y
            · rw [if_pos hm, if_pos]
              simpa using (dueL_mem.1 hm).2
            · rw [if_neg hm, if_neg]
              simp only [decide_eq_true_eq]
              exact fun h => hm (dueL_mem.2 ⟨hi, h⟩)

end Go.Proofs.YtfdldjlaedfllaaDoor

/- The net's New, of right nodes and links. -/
import Derived.Test.YtlemmphnmklbeaaLfiGrow
import Derived.Deep.RegionHeld3
namespace Go.Proofs.Ytlemmphnmklbeaa
open Go.RowKit
set_option linter.unusedVariables false

/-- What the end of New reads. -/
def NewL (A : LAd) (n t : Nat) (w : World) : Prop := w.cell? ⟨A.p, 2, none⟩ = some (.slice (some ⟨A.gN, 0, none⟩) n A.cN) ∧ w.cell? ⟨A.gN, t, none⟩ = some (.pointer (some ⟨A.BN t, 0, none⟩))

set_option maxRecDepth 100000 in
set_option maxHeartbeats 2000000 in
theorem lfiNew_ok (n : Nat) (x : Int) (hx : x = (n : Int)) (A : Option Addr) (m cp : Nat) (t : Nat) (y : Int) (hy : y = (t : Int)) (a b c : Nat → Int) (w : World) (hl : Lnk w A m a b c) (hm : m ≤ 9223372036854775807) (hg : GoodG x m a b c) (ht : t < n) :
    Calls Try.prog 7 #[.int .i64 x, .slice A m cp, .int .i64 y] w fun e w' => ∃ lab Ad, e = .returned (.tuple #[.pointer (some ⟨Ad.p, 0, none⟩), .nilIface]) ∧ LN w' lab Ad n t (LS.new t (costF m a b c)) ∧ (∀ b, b < w.heap.size → lab b = []) ∧ Below w.heap.size w w' := by
  have hcall := costs_ok n x hx A m cp a b c w hl hm hg
  have h1 : 1 ≤ n := by have := hg.1; omega
  have h8 : n ≤ 8 := by have := hg.2.1; omega
  have h8' : (n : Int) ≤ 8 := by omega
  have h1' : (1 : Int) ≤ n := by omega
  subst hx
  subst hy
  have ht' : (t : Int) < n := by omega
  have d1 : decide ((t : Int) < 0) = false := decide_eq_false (by omega)
  have d2 : decide (n ≤ t) = false := decide_eq_false (by omega)
  have hmm := @run_makeMap Try.prog
  have HC := Lib.hid hcall
  clear hcall hl hm hg
  go_enter Try.func7, Try.ntmps7
  go_wp2_with fail
  refine HC.out.mono ?_
  rintro e w1 ⟨g, cg, B, C, rfl, -, hT, hb⟩
  have HT := Lib.hid hT
  have HB := Lib.hid hb
  clear hT hb HC
  go_wp2_with fail
  have hap : ∃ lab A0, A0.p = w1.heap.size + 1 ∧ LP ((w1.alloc (.map #[] 0)).alloc (.cells #[.int .i64 t, .slice (some ⟨g, 0, none⟩) n cg, .slice none 0 0, .map (some w1.heap.size)] 53)) lab A0 n t 0 (.slice none 0 0) (costF m a b c) ∧ ∀ b, b < w.heap.size → lab b = [] := by
    have hb1 : Below w1.heap.size w1 ((w1.alloc (.map #[] 0)).alloc (.cells #[.int .i64 t, .slice (some ⟨g, 0, none⟩) n cg, .slice none 0 0, .map (some w1.heap.size)] 53)) := ((Below.refl _ _).alloc (Nat.le_refl _) _).alloc (by simp) _
    obtain ⟨lab, h, hb⟩ := LP.start (t := t) (p := w1.heap.size + 1) (gW := w1.heap.size) h1 HT.out hb1 (by omega) (Nat.le_refl _) (by omega) (by
      have := Blk.new (w1.alloc (.map #[] 0)) 53 #[.int .i64 t, .slice (some ⟨g, 0, none⟩) n cg, .slice none 0 0, .map (some w1.heap.size)]
      simpa using this) ((WayM.made w1 n).of_block (Below.heap_alloc _ _ _ (by simp))) HB.out.size
    exact ⟨lab, _, rfl, h, hb⟩
  have HAP := Lib.hid hap
  have HB4 : Hid (Below w.heap.size w ((w1.alloc (.map #[] 0)).alloc (.cells #[.int .i64 t, .slice (some ⟨g, 0, none⟩) n cg, .slice none 0 0, .map (some w1.heap.size)] 53))) := (HB.out.alloc HB.out.size _).alloc (by have := HB.out.size; simp; omega) _
  have HSZ : Hid (w.heap.size ≤ w1.heap.size + 1) := by
    have h1 := HB.out.size
    show w.heap.size ≤ w1.heap.size + 1
    omega
  obtain ⟨w4, hw4⟩ : ∃ w4, ((w1.alloc (.map #[] 0)).alloc (.cells #[.int .i64 t, .slice (some ⟨g, 0, none⟩) n cg, .slice none 0 0, .map (some w1.heap.size)] 53)) = w4 := ⟨_, rfl⟩
  rw [hw4] at HAP HB4 ⊢
  obtain ⟨p0, hp0⟩ : ∃ p0, w1.heap.size + 1 = p0 := ⟨_, rfl⟩
  rw [hp0] at HAP HSZ ⊢
  clear hw4 hp0 HT HB hap hmm
  go_loopw [34] (fun q wr => ∃ i : Nat, i ≤ n ∧ q = .int .i64 i ∧ (∃ lab A0 vN, A0.p = p0 ∧ LP wr lab A0 n t i vN (costF m a b c) ∧ ∀ b, b < w.heap.size → lab b = []) ∧ Below w.heap.size w wr) (fun q _ => n - (intOf q).toNat)
  case atStart =>
    obtain ⟨lab, A0, h1, h2, h3⟩ := HAP.out
    exact ⟨0, by omega, rfl, ⟨lab, A0, _, h1, h2, h3⟩, HB4.out⟩
  case round =>
    obtain ⟨i, hi, rfl, ⟨lab, A0, vN, hp, hA, hlow⟩, hbw⟩ := hrel
    have HA := Lib.hid hA
    have HLO := Lib.hid hlow
    have HBW := Lib.hid hbw
    have HP := Lib.hid hp
    rw [← hp] at HSZ ⊢
    clear hlow hbw hp HAP HB4
    by_cases hin : i < n
    · have hin' : (i : Int) < n := by omega
      obtain ⟨c2, c4⟩ := hA.netCell
      have hpl := hA.blk.lt
      have hcl := repeat_ints wr.heap.size n n 16 (wr.alloc (.cells #[.int .i64 16] 3)).drew rfl h1 h8 ((Blk.new wr 3 #[.int .i64 16]).cell 0)
      have hz6 : (wr.alloc (.cells #[.int .i64 16] 3)).drew.heap.size = wr.heap.size + 1 := by show (wr.alloc (.cells #[.int .i64 16] 3)).heap.size = _; simp
      rw [hz6] at hcl
      have HCL := Lib.hid hcl
      have hb61 : Below wr.heap.size wr (wr.alloc (.cells #[.int .i64 16] 3)).drew := ((Below.refl _ _).alloc (Nat.le_refl _) _).drew
      have HB61 := Lib.hid hb61
      have hca : (wr.alloc (.cells #[.int .i64 16] 3)).cell? ⟨A0.p, 2, none⟩ = some vN := (((Below.refl wr.heap.size wr).alloc (Nat.le_refl _) _).cell hpl (p := ⟨A0.p, 2, none⟩)).trans c2
      obtain ⟨j0, hj0, hy0, hy1, hy2⟩ := info_parts infoNodeP
      have HJ := Lib.hid hj0
      have HY := Lib.hid hy0
      have HY1 := Lib.hid hy1
      have HY2 := Lib.hid hy2
      clear hcl hz6 hb61 hj0 hy0 hy1 hy2 hA
      go_wp2_with fail
      go_region_law (first
        | (go_simp
           refine HCL.out.mono ?_
           rintro e w7 ⟨rfl, hblk7, hb7⟩
           have hb67 : Below wr.heap.size wr w7 := HB61.out.trans (hb7.mono (by omega))
           have hc7 := (hb67.cell hpl (p := ⟨A0.p, 2, none⟩)).trans c2
           have hlt7 := World.block_lt_of_cell? w7 _ hc7
           have hc7a : (w7.alloc (.cells #[.int .i64 16, .int .i64 16, .slice (some ⟨wr.heap.size + 1, 0, none⟩) n n] 57)).cell? ⟨A0.p, 2, none⟩ = some vN := (((Below.refl w7.heap.size w7).alloc (Nat.le_refl _) _).cell hlt7 (p := ⟨A0.p, 2, none⟩)).trans hc7
           have hb7b : Below w7.heap.size w7 ((w7.alloc (.cells #[.int .i64 16, .int .i64 16, .slice (some ⟨wr.heap.size + 1, 0, none⟩) n n] 57)).alloc (.cells #[.pointer (some ⟨w7.heap.size, 0, none⟩)] 54)) := ((Below.refl _ _).alloc (Nat.le_refl _) _).alloc (by simp) _
           have hc7b : ((w7.alloc (.cells #[.int .i64 16, .int .i64 16, .slice (some ⟨wr.heap.size + 1, 0, none⟩) n n] 57)).alloc (.cells #[.pointer (some ⟨w7.heap.size, 0, none⟩)] 54)).cell? ⟨A0.p, 2, none⟩ = some vN := (hb7b.cell hlt7 (p := ⟨A0.p, 2, none⟩)).trans hc7
           have HB67 := Lib.hid hb67
           have HBK7 := Lib.hid hblk7
           have HB7B := Lib.hid hb7b
           clear hblk7 hb7 hb67 hb7b)
        | (refine step_append_lies _ rfl (.tmp 40) (.tmp 46) 51 rfl 0 54 j0 _ 1 8 Try.underlying51 HJ.out HY.out HY1.out HY2.out rfl (by decide) vN i _ rfl (HA.out.nod.same fun g hg => (HB67.out.trans (HB7B.out.mono HB67.out.size)).block g (ownsRow_lt HA.out.nod g hg)) ⟨w7.heap.size + 1, 0, none⟩ 1 1 [.pointer (some ⟨w7.heap.size, 0, none⟩)] rfl rfl (cell_new_at _ _ _ (by simp)) (by simp [Value.oneCell']) (by omega) (by unfold maxLen; omega) (by omega) (Nat.zero_le _) _ rfl ?_
           intro g8 cap8 w8 hO8 hg8 ho8 hl8
           have hp8 : some A0.p ≠ vN.ownBlock := fun e => by
             have h1 := HA.out.lN A0.p e.symm
             rw [HA.out.lp] at h1
             simp at h1
           have hb68 : Below wr.heap.size wr ((w7.alloc (.cells #[.int .i64 16, .int .i64 16, .slice (some ⟨wr.heap.size + 1, 0, none⟩) n n] 57)).alloc (.cells #[.pointer (some ⟨w7.heap.size, 0, none⟩)] 54)) := HB67.out.trans (HB7B.out.mono HB67.out.size)
           have hc8 := ((hg8.cell_far ⟨A0.p, 2, none⟩ (Nat.lt_of_lt_of_le hpl hb68.size) hp8).trans (hb68.cell hpl (p := ⟨A0.p, 2, none⟩))).trans c2
           have hf8 := ((hg8.frozen_far ⟨A0.p, 2, none⟩ (Nat.lt_of_lt_of_le hpl hb68.size) hp8).trans (hb68.frozen hpl (p := ⟨A0.p, 2, none⟩))).trans c4
           have HB68 := Lib.hid hb68
           clear hb68))
      all_goals
        have hrow8 : RowP ((w7.alloc (.cells #[.int .i64 16, .int .i64 16, .slice (some ⟨wr.heap.size + 1, 0, none⟩) n n] 57)).alloc (.cells #[.pointer (some ⟨w7.heap.size, 0, none⟩)] 54)) (wr.heap.size + 1) 3 n fun _ => .int .i64 16 := RowP.alloc (RowP.alloc ⟨_, HBK7.out, by simp, fun i hi => by simp [hi]⟩ _) _
        have hnode8 : Blk ((w7.alloc (.cells #[.int .i64 16, .int .i64 16, .slice (some ⟨wr.heap.size + 1, 0, none⟩) n n] 57)).alloc (.cells #[.pointer (some ⟨w7.heap.size, 0, none⟩)] 54)) w7.heap.size 57 #[.int .i64 16, .int .i64 16, .slice (some ⟨wr.heap.size + 1, 0, none⟩) n n] := (Blk.new _ _ _).alloc _
        have hlt8 : wr.heap.size + 1 < w7.heap.size := Blk.lt HBK7.out
        obtain ⟨lab9, hA9, hlab9⟩ := HA.out.grow HB68.out (b := w7.heap.size) (bh := wr.heap.size + 1) (c := n) (g := g8) (cap := cap8) (by omega) (by omega) (by omega) hnode8 hrow8 (OwnN.snoc hO8) hg8 ho8
        have HA9 := Lib.hid hA9
        have HLAB9 := Lib.hid hlab9
        have HB9 : Hid (Below w.heap.size w (w8.setCell ⟨A0.p, 2, none⟩ (.slice (some ⟨g8, 0, none⟩) (i + 1) cap8))) := by
          have h1 := HSZ.out
          refine ((HBW.out.trans (HB68.out.mono HBW.out.size)).trans ⟨hg8.os, hg8.tape, hg8.output, hg8.size, fun k hk => hg8.block k (by have := HBW.out.size; have := HB68.out.size; omega) fun e => ?_⟩).setCell h1 _
          have h2 := HA.out.lN k e.symm
          rw [HLO.out k hk] at h2
          cases h2
        clear hO8 hg8 ho8 hl8 hp8 hA9 hlab9 hrow8 hnode8 hlt8 c2 c4
        go_wp2_with fail
        go_roundw
        case rel => exact ⟨i + 1, by omega, by go_num, ⟨lab9, _, _, (by rfl), HA9.out, fun b hb => by rw [HLAB9.out b (by have := HBW.out.size; omega)]; exact HLO.out b hb⟩, HB9.out⟩
        case measure => simp [intOf]; omega
    · have ei : i = n := by omega
      subst ei
      obtain ⟨A1, hA1, hN⟩ := hA.done h1
      have HN := Lib.hid hN
      rw [← hA1] at HSZ ⊢
      have HA1 := Lib.hid hA1
      clear hA hA1
      obtain ⟨-, -, f2, -⟩ := hN.netCell
      have r1 := hN.nod.cell ht
      have z0 := (hN.nodr t ht).cell 0
      have z1 := (hN.nodr t ht).cell 1
      simp only [List.getElem?_toArray, List.getElem?_cons_zero, List.getElem?_cons_succ] at z0 z1
      have z2 := (hN.nodr t ht).frozen 0
      have z3 := (hN.nodr t ht).frozen 1
      have q0 : A1.p ≠ A1.BN t := lab_ne hN.lp (hN.ln t ht) (by simp)
      have q1 : A1.gN ≠ A1.BN t := lab_ne hN.lN (hN.ln t ht) (by simp)
      have HS1 : Hid (NewL A1 i t (wr.setCell ⟨A1.BN t, 0, none⟩ (.int .i64 0)).drew) := ⟨(cell_far (w := wr) (p := ⟨A1.BN t, 0, none⟩) q0).trans f2, (cell_far (w := wr) (p := ⟨A1.BN t, 0, none⟩) q1).trans r1⟩
      have HS2 : Hid (NewL A1 i t ((wr.setCell ⟨A1.BN t, 0, none⟩ (.int .i64 0)).setCell ⟨A1.BN t, 1, none⟩ (.int .i64 0)).drew) := ⟨(cell_far (w := wr.setCell ⟨A1.BN t, 0, none⟩ (.int .i64 0)) (p := ⟨A1.BN t, 1, none⟩) q0).trans ((cell_far (w := wr) (p := ⟨A1.BN t, 0, none⟩) q0).trans f2), (cell_far (w := wr.setCell ⟨A1.BN t, 0, none⟩ (.int .i64 0)) (p := ⟨A1.BN t, 1, none⟩) q1).trans ((cell_far (w := wr) (p := ⟨A1.BN t, 0, none⟩) q1).trans r1)⟩
      have HZ : Hid (LN ((wr.setCell ⟨A1.BN t, 0, none⟩ (.int .i64 0)).setCell ⟨A1.BN t, 1, none⟩ (.int .i64 0)) lab A1 i t (LS.new t (costF m a b c))) := ((hN.setFar ht 0).setLeast ht 0).as (by
        have e : upd (fun _ => (16 : Int)) t 0 = startF t := by
          funext z
          unfold upd startF
          rfl
        show LS.mk (upd (fun _ => (16 : Int)) t 0) (upd (fun _ => (16 : Int)) t 0) _ _ _ _ = _
        rw [e]
        rfl)
      have HBZ : Hid (Below w.heap.size w ((wr.setCell ⟨A1.BN t, 0, none⟩ (.int .i64 0)).setCell ⟨A1.BN t, 1, none⟩ (.int .i64 0))) := by
        have hge : w.heap.size ≤ A1.BN t := by
          rcases Nat.lt_or_ge (A1.BN t) w.heap.size with h' | h'
          · have := HLO.out _ h'
            rw [hN.ln t ht] at this
            cases this
          · exact h'
        exact (HBW.out.setCell hge _).setCell hge _
      clear hN HN q0 q1
      go_wp2_with fail
      go_region_held3 (fun w' => w'.cell? ⟨A1.p, 2, none⟩ = some (.slice (some ⟨A1.gN, 0, none⟩) i A1.cN) ∧ w'.cell? ⟨A1.gN, t, none⟩ = some (.pointer (some ⟨A1.BN t, 0, none⟩))) (first | exact HS1.out | exact HS2.out | go_keep) (fail)
      go_wp2_with fail
      go_ret2
      exact ⟨lab, A1, rfl, HZ.out.drewN 1, HLO.out, below_drewN HBZ.out 1⟩

end Go.Proofs.Ytlemmphnmklbeaa

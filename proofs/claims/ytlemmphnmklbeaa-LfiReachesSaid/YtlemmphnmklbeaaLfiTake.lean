/- The net's Take. -/
import Derived.Test.YtlemmphnmklbeaaLfiAnew
import Derived.Test.YtlemmphnmklbeaaQueL
import Derived.Test.YtlemmphnmklbeaaCosts
namespace Go.Proofs.Ytlemmphnmklbeaa
open Go.RowKit
set_option linter.unusedVariables false

/-- A store into the ways, at the operation. -/
theorem wpList_mapUpdate_way {w : World} {ops : Array Oper} {rest : List Oper} {o : Oper} {a : Act} {Q : Exit → Act → World → Prop} {b n c r k : Nat} {V : Nat → Nat → Value}
    (hg : o.guard = none) (m x v : Operand) (hop : o.op = Op.mapUpdate 50 m x v) (hm : a.eval m = .map (some b)) (h : WayM w b n c V) (h8 : n ≤ 8) (hr : r < n) (hk : k < n) (hc : c < maxLen)
    (hx : a.eval x = pairV r k) (val : Value) (hv : a.eval v = val)
    (hK : ∀ w', WayM w' b n (c + 1) (setV V r k val) → w.grownBy w' (some b) → wpList Try.prog ops Q rest (a.put o.dst undef) w') : wpList Try.prog ops Q (o :: rest) a w := by
  refine wpList_plain hg fun K' hK' => ?_
  obtain ⟨w', hrun, r1, r2⟩ := h.update h8 hr hk hc val
  unfold Oper.wp
  simp [execOp, hop, hm, hx, hv, hrun, Result.andThen]
  exact hK' _ _ (hK w' r1 r2)

set_option maxRecDepth 100000 in
set_option maxHeartbeats 2000000 in
theorem lfiTake (lab : Nat → List Nat) (A : LAd) (n t : Nat) (s : LS) (a b : Int) (w : World) (h : LN w lab A n t s) (h8 : n ≤ 8) (hI : LInv n t s) (hcm : s.c < maxLen) :
    Calls Try.prog 10 #[.pointer (some ⟨A.p, 0, none⟩), .int .i64 a, .int .i64 b] w fun e w' => e = .returned (errV (s.takeE n a b)) ∧ ∃ A', A'.p = A.p ∧ LN w' lab A' n t (s.take n t a b) ∧ AF lab w lab w' := by
  have h8' : (n : Int) ≤ 8 := by omega
  by_cases h0 : nearE n s.K a b = 0
  · have HC := Lib.hid (lfiNear_ok (w := w) h h8 h0)
    obtain ⟨x, y, rfl, rfl, hx, hy, hne, hk⟩ := near_zero h0
    have e1 : ((x : Int)).toNat = x := by omega
    have e2 : ((y : Int)).toNat = y := by omega
    have hx' : (x : Int) < n := by omega
    have hy' : (y : Int) < n := by omega
    have hq := h.que x y hx hy
    obtain ⟨Aq, cq, hv⟩ := hq.len
    have hb0 : Below w.heap.size w (w.alloc (.cells #[.int .i64 x, .int .i64 y] 58)) := (Below.refl _ _).alloc (Nat.le_refl _) _
    have HAW : Hid (LN (w.alloc (.cells #[.int .i64 x, .int .i64 y] 58)) lab A n t s) := h.below hb0
    have HAF : Hid (AF lab w lab (w.alloc (.cells #[.int .i64 x, .int .i64 y] 58))) := AF.of_below hb0
    obtain ⟨-, -, -, f3⟩ := HAW.out.netCell
    have hlk : ∀ k, (Instr.lookup 50 (.map (some A.gW)) (pairV x y) false).run Try.prog ((w.alloc (.cells #[.int .i64 x, .int .i64 y] 58)).drewN k) = .ok (A.QV x y) ((w.alloc (.cells #[.int .i64 x, .int .i64 y] 58)).drewN k) := fun k => (HAW.out.way.of_block (w' := (w.alloc (.cells #[.int .i64 x, .int .i64 y] 58)).drewN k) rfl).look h8 hx hy
    by_cases hf : (s.q x y).length = 0
    · have es : s.takeE n x y = 2 := by
        unfold LS.takeE
        rw [e1, e2, if_pos ⟨h0, hf⟩]
      have en : s.take n t x y = s := by
        unfold LS.take
        rw [es, if_neg (by omega)]
      rw [es, en]
      rw [hv, hf] at hlk
      clear h hq hv es en h0 e1 e2 hI hf hb0
      go_enter Try.func10, Try.ntmps10
      go_wp2_with fail
      refine HC.out.mono ?_
      rintro e w1 ⟨rfl, h1⟩
      subst w1
      clear HC
      go_wp2_with fail
      go_quiet (fail)
      go_wp2_with fail
      go_ret
      exact ⟨rfl, A, rfl, HAW.out.drewN _, HAF.out.trans ⟨(Touch.refl _ _).drewN _, fun _ _ => rfl⟩⟩
    · obtain ⟨d, l, hl⟩ : ∃ d l, s.q x y = d :: l := by
        cases hq : s.q x y with
        | nil => rw [hq] at hf; simp at hf
        | cons d l => exact ⟨d, l, rfl⟩
      have es : s.takeE n x y = 0 := by
        unfold LS.takeE
        rw [e1, e2, if_neg (fun h => hf h.2)]
        exact h0
      have en : s.take n t x y = (s.come x y).anew n t y := by
        unfold LS.take
        rw [es, if_pos rfl, e1, e2]
      rw [es, en]
      have HCO : Hid (s.come x y = (s.hear y x d).way x y l) := by
        show s.come x y = _
        unfold LS.come LS.first
        rw [hl]
        rfl
      have hIc : LInv n t (s.come x y) := hI.come hx hy (by omega)
      have HI := Lib.hid hIc
      have h20 := hI.few x y hx hy
      have hd := hI.way0 hx hy (x := d) (by rw [hl]; simp)
      obtain ⟨L, hL⟩ : ∃ L, l.length = L := ⟨_, rfl⟩
      have hLL : (s.q x y).length = L + 1 := by rw [hl]; simp [hL]
      rw [hLL] at hv h20
      rw [hv, hl] at hq
      have hAq : ∃ g o, Aq = some ⟨g, o, none⟩ := by
        rcases hq with ⟨h, _⟩ | ⟨g, o, cap, h, _⟩
        · cases h
        · simp only [Value.slice.injEq] at h
          exact ⟨g, o, h.1⟩
      obtain ⟨g, o, rfl⟩ := hAq
      have hlg : lab g = [8, x, y] := by
        rcases hq with ⟨h, _⟩ | ⟨g', o', cap, h, h2, _⟩
        · cases h
        · obtain ⟨⟨rfl, -⟩, -, -⟩ : (g = g' ∧ o = o') ∧ L + 1 = (d :: l).length ∧ cq = cap := by simpa using h
          exact h2
      obtain ⟨hc1, hcq1, hcq2, hqa, hqb⟩ := QueL.tail hq hL
      rw [hv] at hlk
      have HLG := Lib.hid hlg
      have HV := Lib.hid hv
      have HQA := Lib.hid hqa
      have HQB := Lib.hid hqb
      have hc1' := (hb0.cell (World.block_lt_of_cell? w ⟨g, o, none⟩ hc1) (p := ⟨g, o, none⟩)).trans hc1
      have hc0 : (w.alloc (.cells #[.int .i64 x, .int .i64 y] 58)).cell? ⟨w.heap.size, 0, none⟩ = some (.int .i64 x) := (Blk.new w 58 #[.int .i64 x, .int .i64 y]).cell 0
      have hcy : (w.alloc (.cells #[.int .i64 x, .int .i64 y] 58)).cell? ⟨w.heap.size, 1, none⟩ = some (.int .i64 y) := (Blk.new w 58 #[.int .i64 x, .int .i64 y]).cell 1
      have HB0 := Lib.hid hb0
      have HLB : Hid (lab w.heap.size = []) := h.free _ (Nat.le_refl _)
      have HLT : Hid (∀ b, lab b = [8, x, y] → b < w.heap.size) := fun b hb => h.lt (by rw [hb]; simp)
      have hLi : (0 : Int) ≤ L := by omega
      have b0 : ((L : Int) + 1 == 0) = false := beq_false_of_ne (by omega)
      have b1 : (((L + 1 : Nat) : Int) == 0) = false := beq_false_of_ne (by omega)
      have hLi' : ((0 : Nat) : Int) < ((L + 1 : Nat) : Int) := by omega
      have hcq1' : (1 : Int) ≤ cq := by omega
      clear h hq hv hl hL hLL es en h0 e1 e2 hI hIc hqa hqb hc1 hb0 hf hlg hk
      go_enter Try.func10, Try.ntmps10
      go_wp2_with fail
      refine HC.out.mono ?_
      rintro e w1 ⟨rfl, h1⟩
      subst w1
      clear HC
      go_wp2_with fail
      go_quiet (fail)
      go_wp2_with fail
      obtain ⟨B, hB⟩ : ∃ B, w.heap.size = B := ⟨_, rfl⟩
      obtain ⟨w5, hw5⟩ : ∃ w5, (w.alloc (.cells #[.int .i64 x, .int .i64 y] 58)).drewN nq = w5 := ⟨_, rfl⟩
      have HB5 : Hid (Below w.heap.size w w5) := by rw [← hw5]; exact below_drewN HB0.out nq
      have HA5 : Hid (LN w5 lab A n t s) := by rw [← hw5]; exact HAW.out.drewN nq
      have HF5 : Hid (AF lab w lab w5) := by rw [← hw5]; exact HAF.out.trans ⟨(Touch.refl _ _).drewN _, fun _ _ => rfl⟩
      obtain ⟨-, -, g2, g3⟩ := HA5.out.netCell
      have g1 := HA5.out.nod.cell hy
      obtain ⟨-, -, g0⟩ := HA5.out.nodeCell hy
      have m0 := (HA5.out.hrdr y hy).cell hx
      have m1 := (HA5.out.hrdr y hy).frozen x
      have k0 : w5.cell? ⟨B, 0, none⟩ = some (.int .i64 x) := by rw [← hw5, ← hB]; exact hc0
      have k1 : w5.cell? ⟨B, 1, none⟩ = some (.int .i64 y) := by rw [← hw5, ← hB]; exact hcy
      have k2 : w5.cell? ⟨g, o, none⟩ = some (.int .i64 d) := by rw [← hw5]; exact hc1'
      have hlk5 : ∀ k, (Instr.lookup 50 (.map (some A.gW)) (pairV x y) false).run Try.prog (w5.drewN k) = .ok (.slice (some ⟨g, o, none⟩) (L + 1) cq) (w5.drewN k) := fun k => by
        have h1 := (HA5.out.way.of_block (w' := w5.drewN k) rfl).look h8 hx hy
        rw [HV.out] at h1
        exact h1
      have hlk5' := hlk5 1
      rw [show w5.drewN 1 = w5.drew from rfl] at hlk5'
      have HLK := Lib.hid hlk5
      rw [hw5, hB]
      rw [hB] at HLB
      clear hw5 hlk hlk5 f3 HAW HAF HB0 hc0 hcy hc1'
      refine wp_region_quiet_tail 20 (by kernel_rfl) (by kernel_rfl) ?_
      simp only [List.take_succ_cons, List.take_zero, List.drop_succ_cons, List.drop_zero]
      repeat (go_big_quiet_step (fail))
      refine wpQuiet_nil ?_
      go_wp2_with fail
      obtain ⟨w7, hw7⟩ : ∃ w7, (w5.setCell ⟨A.BH y, x, none⟩ (.int .i64 d)).drew = w7 := ⟨_, rfl⟩
      have HN7 : Hid (LN w7 lab A n t (s.hear y x d)) := by rw [← hw7]; exact (HA5.out.setHeard hy x d).drewN 1
      have HF7 : Hid (AF lab w lab w7) := by rw [← hw7]; exact (HF5.out.setCell (HA5.out.lh y hy) (by simp) x _).trans ⟨(Touch.refl _ _).drewN 1, fun _ _ => rfl⟩
      have HBH : Hid (B ≠ A.BH y) := fun e => by
        have h1 := HLB.out
        rw [e, HA5.out.lh y hy] at h1
        cases h1
      have HQ7 : Hid (∀ v, QueL w lab x y v l → QueL w7 lab x y v l) := fun v hv => hv.same (fun g hg => by
        rw [← hw7]
        exact (Below.heap_setCell w5 ⟨A.BH y, x, none⟩ _ g (lab_ne hg (HA5.out.lh y hy) (by simp))).trans (HB5.out.block g (HLT.out g hg))) (fun g hg => hg)
      obtain ⟨-, -, -, p3⟩ := HN7.out.netCell
      have p0 : w7.cell? ⟨B, 0, none⟩ = some (.int .i64 x) := by rw [← hw7]; exact (cell_far (w := w5) (p := ⟨A.BH y, x, none⟩) (q := ⟨B, 0, none⟩) HBH.out).trans k0
      have p1 : w7.cell? ⟨B, 1, none⟩ = some (.int .i64 y) := by rw [← hw7]; exact (cell_far (w := w5) (p := ⟨A.BH y, x, none⟩) (q := ⟨B, 1, none⟩) HBH.out).trans k1
      have hlk7 : (Instr.lookup 50 (.map (some A.gW)) (pairV x y) false).run Try.prog w7.drew = .ok (.slice (some ⟨g, o, none⟩) (L + 1) cq) w7.drew := by
        have h1 := (HN7.out.way.of_block (w' := w7.drew) rfl).look h8 hx hy
        rw [HV.out] at h1
        exact h1
      rw [hw7]
      clear hw7 g0 g1 g2 g3 m0 m1 k0 k1 k2 hlk5' HLK
      have HEND : Hid (∀ u, QueL w7 lab x y (.slice (some u) L (cq - 1)) l → ∀ w8, WayM w8 A.gW n (s.c + 1) (setV A.QV x y (.slice (some u) L (cq - 1))) → w7.drew.grownBy w8 (some A.gW) →
          ∃ A', A'.p = A.p ∧ LN w8 lab A' n t (s.come x y) ∧ AF lab w lab w8) := fun u hq8 w8 hway hgr => by
        have hsw := HN7.out.swap (w' := w8) (lab' := lab) hx hy (v := .slice (some u) L (cq - 1)) (l := l) (fun b hb _ _ hne => hgr.block b hb (by simpa using hne)) hgr.size hway (fun _ _ => rfl) (fun b hb => HN7.out.free b (Nat.le_trans hgr.size hb))
          (hq8.same (fun g hg => hgr.block g (HN7.out.lt (by rw [hg]; simp)) (by simpa using lab_ne hg HN7.out.lW (by simp))) (fun g hg => hg))
        refine ⟨_, (by rfl), hsw.as HCO.out.symm, HF7.out.trans ⟨⟨hgr.os, hgr.tape, hgr.output, hgr.size, fun b hb hl => hgr.block b hb fun e => hl ?_⟩, fun _ _ => rfl⟩⟩
        obtain rfl : b = A.gW := by simpa using e
        rw [HN7.out.lW]; simp
      by_cases hc : cq = 1
      · have HQ8 : Hid (QueL w7 lab x y (.slice (some ⟨g, o, none⟩) L (cq - 1)) l) := HQ7.out _ (HQB.out hc)
        subst hc
        obtain rfl : L = 0 := by omega
        refine wp_region_quiet_tail 12 (by kernel_rfl) (by kernel_rfl) ?_
        simp only [List.take_succ_cons, List.take_zero, List.drop_succ_cons, List.drop_zero]
        repeat (go_big_quiet_step (fail))
        refine wpQuiet_nil ?_
        go_wp2_with (at_mapUpdate; refine wpList_mapUpdate_way rfl _ _ _ rfl rfl (HN7.out.way.of_block (w' := w7.drew) rfl) h8 hx hy hcm rfl (.slice (some ⟨g, o, none⟩) 0 0) rfl ?_)
        intro w8 hway hgr
        obtain ⟨A8, hp8, hN8, hF8⟩ := HEND.out _ HQ8.out w8 hway hgr
        have hcall := lfiAnew lab A8 n t _ y y rfl w8 hN8 h8 hy HI.out.cost (fun r k hr hk => HI.out.hrd0 hr hk)
        rw [hp8] at hcall
        have HC := Lib.hid hcall
        have HF8 := Lib.hid hF8
        have HP8 := Lib.hid hp8
        clear hway hgr hN8 hF8 hp8 hcall HEND HQ8 HN7 HF7 HQ7 p0 p1 p3 hlk7
        go_wp2_with fail
        refine HC.out.mono ?_
        rintro e w9 ⟨rfl, hN9, hF9⟩
        have HN9 := Lib.hid hN9
        have HF9 := Lib.hid (HF8.out.trans hF9)
        clear hN9 hF9 HC
        go_wp2_with fail
        go_ret
        exact ⟨rfl, A8, HP8.out, HN9.out, HF9.out⟩
      · have HQ8 : Hid (QueL w7 lab x y (.slice (some ⟨g, o + 1, none⟩) L (cq - 1)) l) := HQ7.out _ HQA.out
        refine wp_region_quiet_tail 12 (by kernel_rfl) (by kernel_rfl) ?_
        simp only [List.take_succ_cons, List.take_zero, List.drop_succ_cons, List.drop_zero]
        repeat (go_big_quiet_step (fail))
        refine wpQuiet_nil ?_
        go_wp2_with (at_mapUpdate; refine wpList_mapUpdate_way rfl _ _ _ rfl rfl (HN7.out.way.of_block (w' := w7.drew) rfl) h8 hx hy hcm rfl (.slice (some ⟨g, o + 1, none⟩) L (cq - 1)) rfl ?_)
        intro w8 hway hgr
        obtain ⟨A8, hp8, hN8, hF8⟩ := HEND.out _ HQ8.out w8 hway hgr
        have hcall := lfiAnew lab A8 n t _ y y rfl w8 hN8 h8 hy HI.out.cost (fun r k hr hk => HI.out.hrd0 hr hk)
        rw [hp8] at hcall
        have HC := Lib.hid hcall
        have HF8 := Lib.hid hF8
        have HP8 := Lib.hid hp8
        clear hway hgr hN8 hF8 hp8 hcall HEND HQ8 HN7 HF7 HQ7 p0 p1 p3 hlk7
        go_wp2_with fail
        refine HC.out.mono ?_
        rintro e w9 ⟨rfl, hN9, hF9⟩
        have HN9 := Lib.hid hN9
        have HF9 := Lib.hid (HF8.out.trans hF9)
        clear hN9 hF9 HC
        go_wp2_with fail
        go_ret
        exact ⟨rfl, A8, HP8.out, HN9.out, HF9.out⟩
  · obtain ⟨k, hk, hk0⟩ : ∃ k, nearE n s.K a b = k ∧ k ≠ 0 := ⟨_, rfl, h0⟩
    have es : s.takeE n a b = k := by
      unfold LS.takeE
      rw [if_neg (fun h => h0 h.1), hk]
    have en : s.take n t a b = s := by
      unfold LS.take
      rw [es, if_neg hk0]
    have HC := Lib.hid (lfiNear_bad (w := w) h h8 hk hk0)
    have hev : errV k = errNo k := if_neg hk0
    have HA := Lib.hid h
    rw [es, en, hev]
    clear h h0 hk es en hk0 hev hI
    go_enter Try.func10, Try.ntmps10
    go_wp2_with fail
    refine HC.out.mono ?_
    rintro e w1 ⟨rfl, h1⟩
    subst w1
    go_wp2_with fail
    go_ret
    exact ⟨rfl, A, rfl, HA.out, AF.refl _ _⟩

end Go.Proofs.Ytlemmphnmklbeaa

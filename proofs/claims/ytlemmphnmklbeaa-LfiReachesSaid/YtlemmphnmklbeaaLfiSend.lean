/- The net's Send. -/
import Derived.Test.YtlemmphnmklbeaaLfiNear
import Derived.Test.YtlemmphnmklbeaaRegTail
import Derived.Test.YtlemmphnmklbeaaQueL
namespace Go.Proofs.Ytlemmphnmklbeaa
open Go.RowKit
set_option linter.unusedVariables false

/-- What the sending region reads. -/
def SendL (A : LAd) (n x y B : Nat) (z : Int) (w' : World) : Prop :=
  w'.cell? ⟨A.p, 3, none⟩ = some (.map (some A.gW)) ∧ w'.cell? ⟨B, 0, none⟩ = some (.int .i64 x) ∧ w'.cell? ⟨B, 1, none⟩ = some (.int .i64 y) ∧ w'.cell? ⟨A.p, 2, none⟩ = some (.slice (some ⟨A.gN, 0, none⟩) n A.cN) ∧ w'.cell? ⟨A.gN, x, none⟩ = some (.pointer (some ⟨A.BN x, 0, none⟩)) ∧ w'.cell? ⟨A.BN x, 0, none⟩ = some (.int .i64 z)

set_option maxRecDepth 100000 in
set_option maxHeartbeats 2000000 in
theorem lfiSend (lab : Nat → List Nat) (A : LAd) (n t : Nat) (s : LS) (a b : Int) (w : World) (h : LN w lab A n t s) (h8 : n ≤ 8) (hcm : s.c < maxLen) :
    Calls Try.prog 9 #[.pointer (some ⟨A.p, 0, none⟩), .int .i64 a, .int .i64 b] w fun e w' => e = .returned (errV (s.sendE n a b)) ∧ ∃ lab' A', A'.p = A.p ∧ LN w' lab' A' n t (s.send n a b) ∧ AF lab w lab' w' := by
  have h8' : (n : Int) ≤ 8 := by omega
  by_cases h0 : nearE n s.K a b = 0
  · have HC := Lib.hid (lfiNear_ok (w := w) h h8 h0)
    obtain ⟨x, y, rfl, rfl, hx, hy, hne, hk⟩ := near_zero h0
    have e1 : ((x : Int)).toNat = x := by omega
    have e2 : ((y : Int)).toNat = y := by omega
    have hx' : (x : Int) < n := by omega
    have hy' : (y : Int) < n := by omega
    obtain ⟨-, -, f2, f3⟩ := h.netCell
    have r1 := h.nod.cell hx
    obtain ⟨r2, -, -⟩ := h.nodeCell hx
    have hq := h.que x y hx hy
    obtain ⟨Aq, cq, hv⟩ := hq.len
    have hW1 : WayM (w.alloc (.cells #[.int .i64 x, .int .i64 y] 58)) A.gW n s.c A.QV := h.way.of_block (Below.heap_alloc w _ _ h.way.lt)
    have hb0 : Below w.heap.size w (w.alloc (.cells #[.int .i64 x, .int .i64 y] 58)) := (Below.refl _ _).alloc (Nat.le_refl _) _
    have f3' := (hb0.cell h.blk.lt (p := ⟨A.p, 3, none⟩)).trans f3
    have f2' := (hb0.cell h.blk.lt (p := ⟨A.p, 2, none⟩)).trans f2
    have r1' := (hb0.cell h.nod.lt (p := ⟨A.gN, x, none⟩)).trans r1
    have r2' := (hb0.cell (h.nodr x hx).lt (p := ⟨A.BN x, 0, none⟩)).trans r2
    have hlk : ∀ k, (Instr.lookup 50 (.map (some A.gW)) (pairV x y) false).run Try.prog ((w.alloc (.cells #[.int .i64 x, .int .i64 y] 58)).drewN k) = .ok (A.QV x y) ((w.alloc (.cells #[.int .i64 x, .int .i64 y] 58)).drewN k) := fun k => (hW1.of_block (w' := (w.alloc (.cells #[.int .i64 x, .int .i64 y] 58)).drewN k) rfl).look h8 hx hy
    rw [hv] at hlk
    by_cases hf : 20 ≤ (s.q x y).length
    · have es : s.sendE n x y = 4 := by
        unfold LS.sendE
        rw [e1, e2, if_pos ⟨h0, hf⟩]
      have en : s.send n x y = s := by
        unfold LS.send
        rw [es, if_neg (by omega)]
      rw [es, en]
      obtain ⟨L, hL⟩ : ∃ L, (s.q x y).length = L := ⟨_, rfl⟩
      rw [hL] at hlk hf
      have hf' : (20 : Int) ≤ L := by omega
      have HA := Lib.hid h
      clear h hq hv hL es en h0 e1 e2 hW1
      go_enter Try.func9, Try.ntmps9
      go_wp2_with fail
      refine HC.out.mono ?_
      rintro e w1 ⟨rfl, h1⟩
      subst w1
      clear HC
      go_wp2_with fail
      go_quiet (fail)
      go_wp2_with fail
      go_ret
      exact ⟨rfl, lab, A, rfl, (HA.out.below ((Below.refl _ _).alloc (Nat.le_refl _) _)).drewN _, AF.of_below (below_drewN ((Below.refl _ _).alloc (Nat.le_refl _) _) _)⟩
    · have es : s.sendE n x y = 0 := by
        unfold LS.sendE
        rw [e1, e2, if_neg (fun h => hf h.2)]
        exact h0
      have en : s.send n x y = s.put x y := by
        unfold LS.send
        rw [es, if_pos rfl, e1, e2]
      rw [es, en]
      obtain ⟨l, hl⟩ : ∃ l, s.q x y = l := ⟨_, rfl⟩
      obtain ⟨z, hz⟩ : ∃ z, s.f x = z := ⟨_, rfl⟩
      have HP : Hid (s.put x y = s.way x y (l ++ [z])) := by
        show s.put x y = _
        unfold LS.put
        rw [hl, hz]
      rw [hl] at hf hq hv hlk
      rw [hz] at r2'
      have HQ : Hid (s.q x y = l) := hl
      have HV := Lib.hid hv
      obtain ⟨L, hL⟩ : ∃ L, l.length = L := ⟨_, rfl⟩
      rw [hL] at hlk hf
      have HLL := Lib.hid hL
      have hf' : ¬ (20 : Int) ≤ L := by omega
      have hd : decide ((20 : Int) ≤ L) = false := decide_eq_false hf'
      have HAW : Hid (LN (w.alloc (.cells #[.int .i64 x, .int .i64 y] 58)) lab A n t s) := h.below hb0
      have hc0 : (w.alloc (.cells #[.int .i64 x, .int .i64 y] 58)).cell? ⟨w.heap.size, 0, none⟩ = some (.int .i64 x) := (Blk.new w 58 #[.int .i64 x, .int .i64 y]).cell 0
      have hc1 : (w.alloc (.cells #[.int .i64 x, .int .i64 y] 58)).cell? ⟨w.heap.size, 1, none⟩ = some (.int .i64 y) := (Blk.new w 58 #[.int .i64 x, .int .i64 y]).cell 1
      have hBl : w.heap.size < (w.alloc (.cells #[.int .i64 x, .int .i64 y] 58)).heap.size := by simp
      have HLB : Hid (lab w.heap.size = []) := h.free _ (Nat.le_refl _)
      have HAF : Hid (AF lab w lab (w.alloc (.cells #[.int .i64 x, .int .i64 y] 58))) := AF.of_below hb0
      clear h hq hv hL hl hz es en h0 e1 e2 hW1 hb0 f2 f3 r1 r2
      go_enter Try.func9, Try.ntmps9
      go_wp2_with fail
      refine HC.out.mono ?_
      rintro e w1 ⟨rfl, h1⟩
      subst w1
      clear HC
      go_wp2_with fail
      go_quiet (fail)
      go_wp2_with fail
      have HA5 := Lib.hid (HAW.out.drewN nq)
      have HF5 : Hid (AF lab w lab ((w.alloc (.cells #[.int .i64 x, .int .i64 y] 58)).drewN nq)) := HAF.out.trans ⟨(Touch.refl _ _).drewN _, fun _ _ => rfl⟩
      obtain ⟨B, hB⟩ : ∃ B, w.heap.size = B := ⟨_, rfl⟩
      obtain ⟨w5, hw5⟩ : ∃ w5, (w.alloc (.cells #[.int .i64 x, .int .i64 y] 58)).drewN nq = w5 := ⟨_, rfl⟩
      have g3 : w5.cell? ⟨A.p, 3, none⟩ = some (.map (some A.gW)) := by rw [← hw5]; exact f3'
      have g2 : w5.cell? ⟨A.p, 2, none⟩ = some (.slice (some ⟨A.gN, 0, none⟩) n A.cN) := by rw [← hw5]; exact f2'
      have g1 : w5.cell? ⟨A.gN, x, none⟩ = some (.pointer (some ⟨A.BN x, 0, none⟩)) := by rw [← hw5]; exact r1'
      have g0 : w5.cell? ⟨A.BN x, 0, none⟩ = some (.int .i64 z) := by rw [← hw5]; exact r2'
      have k0 : w5.cell? ⟨B, 0, none⟩ = some (.int .i64 x) := by rw [← hw5, ← hB]; exact hc0
      have k1 : w5.cell? ⟨B, 1, none⟩ = some (.int .i64 y) := by rw [← hw5, ← hB]; exact hc1
      have HBL : Hid (B < w5.heap.size) := by rw [← hw5, ← hB]; exact hBl
      rw [hB] at HLB
      rw [hw5] at HA5 HF5 ⊢
      rw [hB]
      clear hw5 hB f3' f2' r1' r2' hc0 hc1 hBl hlk HAW HAF
      have HS0 : Hid (SendL A n x y B z w5.drew) := ⟨g3, k0, k1, g2, g1, g0⟩
      clear g3 k0 k1 g2 g1 g0
      refine wp_region_tail (SendL A n x y B z) 20 (by kernel_rfl) ?_
      refine wpTail_take (i := 0) (v := ?_) rfl (by kernel_rfl) (by kernel_rfl) (by kernel_rfl) (by kernel_rfl) (fun _ _ _ h => h) HS0.out ?_ rfl ?_
      rotate_left 1
      · intro w0 hS0
        obtain ⟨s1, s2, s3, s4, s5, s6⟩ := hS0
        go_simp
        try with_reducible rfl
      try simp only [Act.put, List.setIfInBounds_toArray]
      refine wpTail_take (i := 1) (v := ?_) rfl (by kernel_rfl) (by kernel_rfl) (by kernel_rfl) (by kernel_rfl) (fun _ _ _ h => h) HS0.out ?_ rfl ?_
      rotate_left 1
      · intro w0 hS0
        obtain ⟨s1, s2, s3, s4, s5, s6⟩ := hS0
        go_simp
        try with_reducible rfl
      try simp only [Act.put]
      refine wpTail_take (i := 2) (v := ?_) rfl (by kernel_rfl) (by kernel_rfl) (by kernel_rfl) (by kernel_rfl) (fun _ _ _ h => h) HS0.out ?_ rfl ?_
      rotate_left 1
      · intro w0 hS0
        obtain ⟨s1, s2, s3, s4, s5, s6⟩ := hS0
        go_simp
        try with_reducible rfl
      try simp only [Act.put]
      refine wpTail_take (i := 3) (v := ?_) rfl (by kernel_rfl) (by kernel_rfl) (by kernel_rfl) (by kernel_rfl) (fun _ _ _ h => h) HS0.out ?_ rfl ?_
      rotate_left 1
      · intro w0 hS0
        obtain ⟨s1, s2, s3, s4, s5, s6⟩ := hS0
        go_simp
        try with_reducible rfl
      try simp only [Act.put]
      refine wpTail_take (i := 4) (v := ?_) rfl (by kernel_rfl) (by kernel_rfl) (by kernel_rfl) (by kernel_rfl) (fun _ _ _ h => h) HS0.out ?_ rfl ?_
      rotate_left 1
      · intro w0 hS0
        obtain ⟨s1, s2, s3, s4, s5, s6⟩ := hS0
        go_simp
        try with_reducible rfl
      try simp only [Act.put]
      refine wpTail_take (i := 5) (v := ?_) rfl (by kernel_rfl) (by kernel_rfl) (by kernel_rfl) (by kernel_rfl) (fun _ _ _ h => h) HS0.out ?_ rfl ?_
      rotate_left 1
      · intro w0 hS0
        obtain ⟨s1, s2, s3, s4, s5, s6⟩ := hS0
        go_simp
        try with_reducible rfl
      try simp only [Act.put]
      refine wpTail_take (i := 6) (v := ?_) rfl (by kernel_rfl) (by kernel_rfl) (by kernel_rfl) (by kernel_rfl) (fun _ _ _ h => h) HS0.out ?_ rfl ?_
      rotate_left 1
      · intro w0 hS0
        obtain ⟨s1, s2, s3, s4, s5, s6⟩ := hS0
        go_simp
        try with_reducible rfl
      try simp only [Act.put]
      refine wpTail_take (i := 7) (v := ?_) rfl (by kernel_rfl) (by kernel_rfl) (by kernel_rfl) (by kernel_rfl) (fun _ _ _ h => h) HS0.out ?_ rfl ?_
      rotate_left 1
      · intro w0 hS0
        obtain ⟨s1, s2, s3, s4, s5, s6⟩ := hS0
        go_simp
        try with_reducible rfl
      try simp only [Act.put]
      refine wpTail_take (i := 8) (v := ?_) rfl (by kernel_rfl) (by kernel_rfl) (by kernel_rfl) (by kernel_rfl) (fun _ _ _ h => h) HS0.out ?_ rfl ?_
      rotate_left 1
      · intro w0 hS0
        obtain ⟨s1, s2, s3, s4, s5, s6⟩ := hS0
        go_simp
        try with_reducible rfl
      try simp only [Act.put]
      refine wpTail_take (i := 9) (v := ?_) rfl (by kernel_rfl) (by kernel_rfl) (by kernel_rfl) (by kernel_rfl) (fun _ _ _ h => h) HS0.out ?_ rfl ?_
      rotate_left 1
      · intro w0 hS0
        obtain ⟨s1, s2, s3, s4, s5, s6⟩ := hS0
        go_simp
        try with_reducible rfl
      try simp only [Act.put]
      refine wpTail_take (i := 10) (v := ?_) rfl (by kernel_rfl) (by kernel_rfl) (by kernel_rfl) (by kernel_rfl) (fun _ _ _ h => h) HS0.out ?_ rfl ?_
      rotate_left 1
      · intro w0 hS0
        obtain ⟨s1, s2, s3, s4, s5, s6⟩ := hS0
        go_simp
        try with_reducible rfl
      try simp only [Act.put]
      refine wpTail_take (i := 11) (v := ?_) rfl (by kernel_rfl) (by kernel_rfl) (by kernel_rfl) (by kernel_rfl) (fun _ _ _ h => h) HS0.out ?_ rfl ?_
      rotate_left 1
      · intro w0 hS0
        obtain ⟨s1, s2, s3, s4, s5, s6⟩ := hS0
        go_simp
        try with_reducible rfl
      try simp only [Act.put]
      refine wpTail_take (i := 12) (v := ?_) rfl (by kernel_rfl) (by kernel_rfl) (by kernel_rfl) (by kernel_rfl) (fun _ _ _ h => h) HS0.out ?_ rfl ?_
      rotate_left 1
      · intro w0 hS0
        obtain ⟨s1, s2, s3, s4, s5, s6⟩ := hS0
        go_simp
        try with_reducible rfl
      try simp only [Act.put]
      refine wpTail_take (i := 13) (v := ?_) rfl (by kernel_rfl) (by kernel_rfl) (by kernel_rfl) (by kernel_rfl) (fun _ _ _ h => h) HS0.out ?_ rfl ?_
      rotate_left 1
      · intro w0 hS0
        obtain ⟨s1, s2, s3, s4, s5, s6⟩ := hS0
        go_simp
        try with_reducible rfl
      try simp only [Act.put]
      refine wpTail_take (i := 14) (v := ?_) rfl (by kernel_rfl) (by kernel_rfl) (by kernel_rfl) (by kernel_rfl) (fun _ _ _ h => h) HS0.out ?_ rfl ?_
      rotate_left 1
      · intro w0 hS0
        obtain ⟨s1, s2, s3, s4, s5, s6⟩ := hS0
        go_simp
        try with_reducible rfl
      try simp only [Act.put]
      refine wpTail_step (i := 15) rfl (by kernel_rfl) (fun K hK => ?_)
      go_simp
      have hb6 : Below w5.heap.size w5 (w5.alloc (.cells #[.int .i64 z] 3)).drew := ((Below.refl _ _).alloc (Nat.le_refl _) _).drew
      have HB6 := Lib.hid hb6
      have HS1 : Hid (SendL A n x y B z (w5.alloc (.cells #[.int .i64 z] 3)).drew) := by
        have hk : ∀ (p : Addr) (v : Value), w5.cell? p = some v → (w5.alloc (.cells #[.int .i64 z] 3)).drew.cell? p = some v := fun p v hv => (HB6.out.cell (World.block_lt_of_cell? w5 p hv)).trans hv
        exact ⟨hk _ _ HS0.out.1, hk _ _ HS0.out.2.1, hk _ _ HS0.out.2.2.1, hk _ _ HS0.out.2.2.2.1, hk _ _ HS0.out.2.2.2.2.1, hk _ _ HS0.out.2.2.2.2.2⟩
      refine hK.out _ _ HS1.out ?_
      clear hK K hb6
      try simp only [Act.put]
      have hW6 : WayM (w5.alloc (.cells #[.int .i64 z] 3)).drew A.gW n s.c A.QV := HA5.out.way.of_block (HB6.out.block _ HA5.out.way.lt)
      obtain ⟨st, es1, clock1, hme, hst⟩ := hW6.entry h8 hx hy hcm
      rw [HV.out] at hme
      have HST := Lib.hid hst
      obtain ⟨es0, clock0, hmb⟩ := hW6.block
      have HMB := Lib.hid hmb
      clear hst hW6 hmb
      refine wpTail_step (i := 16) rfl (by kernel_rfl) (fun K hK => ?_)
      go_simp
      obtain ⟨w7, hw7⟩ : ∃ w7, Go.ChangeMaps.setBlock (w5.alloc (.cells #[.int .i64 z] 3)).drew A.gW (.map es1 clock1) = w7 := ⟨_, rfl⟩
      have H7b : Hid (∀ b, b < w5.heap.size → b ≠ A.gW → w7.heap[b]? = w5.heap[b]?) := fun b hb hne => by
        rw [← hw7]
        exact (Go.ChangeMaps.heap_setBlock_other HMB.out _ hne).trans (HB6.out.block b hb)
      have H7m : Hid (w7.heap[A.gW]? = some (.map es1 clock1)) := by
        rw [← hw7]
        exact Go.ChangeMaps.heap_setBlock_same HMB.out _
      have H7z : Hid (w7.heap.size = w5.heap.size + 1) := by
        rw [← hw7]
        show ((w5.alloc (.cells #[.int .i64 z] 3)).heap.setIfInBounds A.gW (.map es1 clock1)).size = _
        simp
      have H7n : Hid (w7.cell? ⟨w5.heap.size, 0, none⟩ = some (.int .i64 z)) := by
        have hne : w5.heap.size ≠ A.gW := by have := HA5.out.way.lt; omega
        have hb := Go.ChangeMaps.heap_setBlock_other (w := (w5.alloc (.cells #[.int .i64 z] 3)).drew) HMB.out (.map es1 clock1) hne
        rw [hw7] at hb
        exact (World.cell?_of_block (a := ⟨w5.heap.size, 0, none⟩) hb).trans ((Blk.new w5 3 #[.int .i64 z]).cell 0)
      have H7o : Hid (w7.os = w5.os ∧ w7.tape = w5.tape ∧ w7.output = w5.output) := by
        rw [← hw7]
        exact ⟨rfl, rfl, rfl⟩
      have HBW : Hid (B ≠ A.gW) := fun e => by
        have h1 := HLB.out
        rw [e, HA5.out.lW] at h1
        cases h1
      have HS7 : Hid (SendL A n x y B z w7) := by
        have hk : ∀ (p : Addr) (v : Value), p.block ≠ A.gW → w5.drew.cell? p = some v → w7.cell? p = some v := fun p v hp hv => (World.cell?_of_block (H7b.out _ (World.block_lt_of_cell? w5 p hv) hp)).trans hv
        have q0 := lab_ne HA5.out.lp HA5.out.lW (by simp)
        have q1 := lab_ne HA5.out.lN HA5.out.lW (by simp)
        have q2 := lab_ne (HA5.out.ln x hx) HA5.out.lW (by simp)
        exact ⟨hk _ _ q0 HS0.out.1, hk _ _ HBW.out HS0.out.2.1, hk _ _ HBW.out HS0.out.2.2.1, hk _ _ q0 HS0.out.2.2.2.1, hk _ _ q1 HS0.out.2.2.2.2.1, hk _ _ q2 HS0.out.2.2.2.2.2⟩
      rw [hw7]
      clear hw7
      refine hK.out _ _ HS7.out ?_
      clear hK K hme
      try simp only [Act.put]
      refine wpTail_take (i := 17) (v := ?_) rfl (by kernel_rfl) (by kernel_rfl) (by kernel_rfl) (by kernel_rfl) (fun _ _ _ h => h) HS7.out ?_ rfl ?_
      rotate_left 1
      · intro w0 hS0
        go_simp
        try with_reducible rfl
      try simp only [Act.put]
      refine wpTail_take (i := 19) (v := ?_) rfl (by kernel_rfl) (by kernel_rfl) (by kernel_rfl) (by kernel_rfl) (fun _ _ _ h => h) HS7.out ?_ rfl ?_
      rotate_left 1
      · intro w0 hS0
        go_simp
        try with_reducible rfl
      try simp only [Act.put]
      have HQ7 : Hid (QueL w7 lab x y (.slice Aq L cq) l) := by
        have h1 := HA5.out.que x y hx hy
        rw [HQ.out, HV.out, HLL.out] at h1
        exact h1.same (fun g hg => H7b.out g (HA5.out.lt (by rw [hg]; simp)) (lab_ne hg HA5.out.lW (by simp))) (fun g hg => hg)
      have HL7 : Hid (∀ g, lab g = [8, x, y] → g < w7.heap.size) := fun g hg => by
        have h1 := HA5.out.lt (b := g) (by rw [hg]; simp)
        have h2 := H7z.out
        omega
      refine wpTail_step (i := 18) rfl (by kernel_rfl) (fun K hK => ?_)
      have eL : l.length = L := HLL.out
      refine step_append_que rfl (.tmp 33) (.tmp 44) rfl rfl (by rw [← eL]; rfl) rfl HQ7.out HLL.out HL7.out H7n.out (by omega) ?_
      clear eL
      intro g8 o8 cap8 w8 hQ8 hT8 hg8 hlt8
      have HQ8 := Lib.hid hQ8
      have HT8 := Lib.hid hT8
      have HG8 := Lib.hid hg8
      have HLT8 := Lib.hid hlt8
      have HS8 : Hid (SendL A n x y B z w8) := by
        have hk : ∀ (p : Addr) (v : Value), ¬ (lab p.block = [8, x, y]) → w7.cell? p = some v → w8.cell? p = some v := fun p v hp hv => (World.cell?_of_block (HT8.out.block _ (World.block_lt_of_cell? w7 p hv) hp)).trans hv
        have q0 : ¬ lab A.p = [8, x, y] := by rw [HA5.out.lp]; simp
        have q1 : ¬ lab A.gN = [8, x, y] := by rw [HA5.out.lN]; simp
        have q2 : ¬ lab (A.BN x) = [8, x, y] := by rw [HA5.out.ln x hx]; simp
        have q3 : ¬ lab B = [8, x, y] := by rw [HLB.out]; simp
        exact ⟨hk _ _ q0 HS7.out.1, hk _ _ q3 HS7.out.2.1, hk _ _ q3 HS7.out.2.2.1, hk _ _ q0 HS7.out.2.2.2.1, hk _ _ q1 HS7.out.2.2.2.2.1, hk _ _ q2 HS7.out.2.2.2.2.2⟩
      clear hQ8 hT8 hg8 hlt8
      refine hK.out _ _ HS8.out ?_
      clear hK K
      try simp only [Act.put]
      have hm8 : w8.heap[A.gW]? = some (.map es1 clock1) := (HT8.out.block _ (by have := H7z.out; have := HA5.out.way.lt; omega) (by rw [HA5.out.lW]; simp)).trans H7m.out
      obtain ⟨w9, hrun, hway, hgr⟩ := HST.out w8 (.slice (some ⟨g8, o8, none⟩) (L + 1) cap8) hm8
      rw [show goInt st = Value.int .i64 st from rfl] at hrun
      have HWAY := Lib.hid hway
      have HGR := Lib.hid hgr
      clear hm8 hway hgr
      refine wpTail_last rfl (by kernel_rfl) (by kernel_rfl) (fun K hK => ?_)
      go_simp
      refine hK.out _ _ ?_
      clear hK K hrun
      have HN : Hid (∃ lab' A', A'.p = A.p ∧ LN w9 lab' A' n t (s.put x y) ∧ AF lab w lab' w9) := by
        have hbl : ∀ b, b < w5.heap.size → lab b ≠ [8, x, y] → b ≠ A.gW → w9.heap[b]? = w5.heap[b]? := fun b hb h1 h2 =>
          (HGR.out.block b (Nat.lt_of_lt_of_le (by have := H7z.out; omega) HT8.out.size) (by simpa using h2)).trans ((HT8.out.block b (by have := H7z.out; omega) h1).trans (H7b.out b hb h2))
        have hsz : w5.heap.size ≤ w9.heap.size := by
          have h1 := H7z.out
          have h2 := HT8.out.size
          have h3 := HGR.out.size
          omega
        have hgW : g8 ≠ A.gW := fun e => by
          have h1 := HA5.out.lW
          have h2 := HA5.out.way.lt
          have h3 := H7z.out
          rcases HG8.out with h | h
          · rw [e, h1] at h; simp at h
          · omega
        have hlab : ∀ b, b < w5.heap.size → (fun b => if b = g8 then [8, x, y] else lab b) b = lab b := fun b hb => by
          show (if b = g8 then [8, x, y] else lab b) = lab b
          by_cases e : b = g8
          · subst e
            rw [if_pos rfl]
            rcases HG8.out with h | h
            · exact h.symm
            · have := H7z.out; omega
          · rw [if_neg e]
        have hq9 : QueL w9 (fun b => if b = g8 then [8, x, y] else lab b) x y (.slice (some ⟨g8, o8, none⟩) (L + 1) cap8) (l ++ [z]) := by
          refine (HQ8.out (fun b => if b = g8 then [8, x, y] else lab b) (if_pos rfl)).same (fun g hg => ?_) (fun g hg => hg)
          have h1 : (if g = g8 then [8, x, y] else lab g) = [8, x, y] := hg
          have hne : g ≠ A.gW := by
            by_cases e : g = g8
            · rw [e]; exact hgW
            · rw [if_neg e] at h1
              exact lab_ne h1 HA5.out.lW (by simp)
          have hlt : g < w8.heap.size := by
            by_cases e : g = g8
            · rw [e]; exact HLT8.out
            · rw [if_neg e] at h1
              exact Nat.lt_of_lt_of_le (HL7.out g h1) HT8.out.size
          exact HGR.out.block g hlt (by simpa using hne)
        have hsw := HA5.out.swap (lab' := fun b => if b = g8 then [8, x, y] else lab b) hx hy (fun b hb _ h1 h2 => hbl b hb h1 h2) hsz HWAY.out hlab (fun b hb => by
            show (if b = g8 then [8, x, y] else lab b) = []
            rw [if_neg (by have := HLT8.out; have := HGR.out.size; omega)]
            exact HA5.out.free b (Nat.le_trans hsz hb)) hq9
        refine ⟨_, { A with QV := setV A.QV x y (.slice (some ⟨g8, o8, none⟩) (L + 1) cap8) }, rfl, (by rw [HP.out]; exact hsw), HF5.out.trans ⟨⟨?_, ?_, ?_, hsz, fun b hb hl => hbl b hb (fun e => hl (by rw [e]; simp)) (fun e => hl (by rw [e, HA5.out.lW]; simp))⟩, hlab⟩⟩
        · exact HGR.out.os.trans (HT8.out.os.trans H7o.out.1)
        · exact HGR.out.tape.trans (HT8.out.tape.trans H7o.out.2.1)
        · exact HGR.out.output.trans (HT8.out.output.trans H7o.out.2.2)
      clear HS0 HS1 HS7 HS8 HQ8 HT8 HG8 HLT8 HWAY HGR HST HB6 H7b H7m H7z H7n H7o HQ7 HL7
      go_wp2_with fail
      go_ret
      exact ⟨rfl, HN.out⟩
  · obtain ⟨k, hk, hk0⟩ : ∃ k, nearE n s.K a b = k ∧ k ≠ 0 := ⟨_, rfl, h0⟩
    have es : s.sendE n a b = k := by
      unfold LS.sendE
      rw [if_neg (fun h => h0 h.1), hk]
    have en : s.send n a b = s := by
      unfold LS.send
      rw [es, if_neg hk0]
    have HC := Lib.hid (lfiNear_bad (w := w) h h8 hk hk0)
    have hev : errV k = errNo k := if_neg hk0
    have HA := Lib.hid h
    rw [es, en, hev]
    clear h h0 hk es en hk0 hev
    go_enter Try.func9, Try.ntmps9
    go_wp2_with fail
    refine HC.out.mono ?_
    rintro e w1 ⟨rfl, h1⟩
    subst w1
    go_wp2_with fail
    go_ret
    exact ⟨rfl, lab, A, rfl, HA.out, AF.refl _ _⟩

end Go.Proofs.Ytlemmphnmklbeaa

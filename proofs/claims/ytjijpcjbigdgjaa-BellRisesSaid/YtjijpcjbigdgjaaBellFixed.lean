/- BellFixed: what all think in the end another round does not change; they come to it in fewer rounds than there are nodes; whatever they thought at first, behind so many rounds they think it. For all arguments; no condition. -/
import Derived.Test.YtjijpcjbigdgjaaBellRun
namespace Go.Proofs.Ytjijpcjbigdgjaa
open Go.RowKit
set_option linter.unusedVariables false

theorem Lnk.alloc' {w : World} {A : Option Addr} {n : Nat} {a b c : Nat → Int} (h : Lnk w A n a b c) (o : Obj) : Lnk (w.alloc o) A n a b c := h.keep ((Below.refl _ _).alloc (Nat.le_refl _) o)

/-- The one link of the facts. -/
theorem lnk_lit (w : World) : Lnk (w.alloc (.cells #[.int .i64 0, .int .i64 1, .int .i64 3] 66)) (some ⟨w.heap.size, 0, none⟩) 1 (fun _ => 0) (fun _ => 1) (fun _ => 3) := by
  have h := Blk.new w 66 #[.int .i64 0, .int .i64 1, .int .i64 3]
  intro i hi
  obtain rfl : i = 0 := by omega
  exact ⟨_, rfl, h.lt, by rw [Addr.add_lit, h.cell]; rfl, by rw [Addr.add_lit, h.cell]; rfl, by rw [Addr.add_lit, h.cell]; rfl⟩

theorem right_lit : Right 2 1 (fun _ => 0) (fun _ => 1) (fun _ => 3) := by
  intro i hi
  obtain rfl : i = 0 := by omega
  exact ⟨by unfold LinkOk; decide, by decide, fun j hj => absurd hj (by omega)⟩

theorem good_lit : GoodG 2 1 (fun _ => 0) (fun _ => 1) (fun _ => 3) := ⟨by omega, by omega, right_lit⟩

theorem end_lit : ∀ i, i < 2 → (if i = 0 then 0 else 3 : Int) = endF 0 (fun _ => 0) (fun _ => 1) (fun _ => 3) 1 i := by
  refine end_only (d := fun i => if i = 0 then 0 else 3) right_lit (fun i hi => ?_) fun i hi => ?_
  · show 0 ≤ (if i = 0 then 0 else 3 : Int) ∧ (if i = 0 then 0 else 3 : Int) ≤ 16
    split <;> omega
  · have h : i = 0 ∨ i = 1 := by omega
    rcases h with rfl | rfl <;> decide

theorem takes_lit {k : Nat} (h : Takes 2 0 (fun _ => 0) (fun _ => 1) (fun _ => 3) 1 k) : k = 1 := by
  obtain ⟨h1, h2, -⟩ := h
  have e : k = 0 ∨ k = 1 := by omega
  rcases e with rfl | rfl
  · have h3 := h2 1 (by omega)
    rw [← end_lit 1 (by omega)] at h3
    exact absurd h3 (by decide)
  · rfl

set_option maxRecDepth 100000 in
set_option maxHeartbeats 1000000 in
theorem rounded_walk (w : World) :
    Calls Try.prog 32 #[] w fun e w' => e = .returned (.bool true) ∧ Below w.heap.size w w' := by
  go_enter Try.func32, Try.ntmps32
  go_wp2_with fail
  have hcall := bellRun_ok 2 0 2 0 rfl rfl (some ⟨w.heap.size, 0, none⟩) 1 1 (fun _ => 0) (fun _ => 1) (fun _ => 3) _ (lnk_lit w) (by omega) good_lit (by omega)
  refine hcall.mono ?_
  clear hcall
  rintro e w1 ⟨g, k, rfl, hg, hrow, htk, hb⟩
  obtain rfl := takes_lit htk
  have HR := Lib.hid hrow
  have HB : Hid (Below w.heap.size w w1) := keepAlloc (Below.refl _ _) hb
  clear hg hrow htk hb
  go_wp2_with fail
  have hcall := ints_walk (some ⟨g, 0, none⟩) (some ⟨w1.heap.size, 0, none⟩) 2 2 2 2 _ (fun i => if i = 0 then 0 else 3) _ ((HR.out.alloc (.cells #[.int .i64 0, .int .i64 3] 3)).vec)
    (fun j hj => ⟨_, rfl, (Blk.new w1 3 #[.int .i64 0, .int .i64 3]).lt, by
      rw [Addr.add_lit, (Blk.new w1 3 #[.int .i64 0, .int .i64 3]).cell]
      have h : j = 0 ∨ j = 1 := by omega
      rcases h with rfl | rfl <;> rfl⟩) (by omega) (by omega) true ⟨fun _ => ⟨rfl, fun i hi => (end_lit i hi).symm⟩, fun _ => rfl⟩
  refine hcall.mono ?_
  clear hcall
  rintro e w2 ⟨rfl, k2, rfl⟩
  go_wp2_with fail
  go_ret
  exact ⟨rfl, below_drewN (HB.out.alloc HB.out.size _) _⟩

set_option maxRecDepth 100000 in
set_option maxHeartbeats 2000000 in
theorem bellFixed_walk (x : Int) (A : Option Addr) (m cp : Nat) (a b c : Nat → Int) (y : Int) (D : Option Addr) (k cd : Nat) (d : Nat → Int) (w : World) (hl : Lnk w A m a b c) (hm : m ≤ 9223372036854775807) (hd : Vec w D k d) (hk : k ≤ 9223372036854775807) :
    Calls Try.prog 10 #[.int .i64 x, .slice A m cp, .int .i64 y, .slice D k cd] w fun e w' => e = .returned (.bool true) ∧ Below w.heap.size w w' := by
  have HL := Lib.hid hl
  have HD := Lib.hid hd
  clear hl hd
  go_enter Try.func10, Try.ntmps10
  go_wp2_with fail
  refine (rounded_walk w).mono ?_
  rintro e w1 ⟨rfl, hb1⟩
  have HB1 := Lib.hid hb1
  clear hb1
  go_wp2_with fail
  rcases bellRun_bad_aux x y m a b c with ⟨hg, h0, h1⟩ | ⟨v, -, hf⟩
  · obtain ⟨n, rfl, hn1, hn8, hr⟩ := good_nat hg
    obtain ⟨t, rfl⟩ : ∃ t : Nat, y = t := ⟨y.toNat, by omega⟩
    have ht : t < n := by omega
    have hn8' : (n : Int) ≤ 8 := by omega
    have HG := Lib.hid hg
    have HR := Lib.hid hr
    clear hg hr h0 h1
    have hcall := bellRun_ok n t n t rfl rfl A m cp a b c w1 (HL.out.keep HB1.out) hm HG.out ht
    refine hcall.mono ?_
    clear hcall
    rintro e w2 ⟨g, q, rfl, -, hrow, htk, hb2⟩
    have hqn : (q : Int) < n := by have := htk.1; omega
    have HF := Lib.hid hrow
    have HB2 := Lib.hid (keep HB1.out hb2)
    clear hrow htk hb2 HB1
    go_wp2_with fail
    have hcall := bellRound_ok n t n t rfl rfl A (some ⟨g, 0, none⟩) m cp n n rfl a b c (endF t a b c m) w2 (HL.out.keep HB2.out) HF.out.vec hm HG.out ht (end_ranged HR.out)
    refine hcall.mono ?_
    clear hcall
    rintro e w3 ⟨g3, rfl, -, hrow3, hb3⟩
    have HF3 := Lib.hid (HF.out.below hb3 HF.out.lt)
    have HR3 := Lib.hid hrow3
    have HB3 := Lib.hid (keep HB2.out hb3)
    clear hrow3 hb3 HB2 HF
    go_wp2_with fail
    have hcall := ints_walk (some ⟨g3, 0, none⟩) (some ⟨g, 0, none⟩) n n n n _ _ w3 HR3.out.vec HF3.out.vec (by omega) (by omega) true ⟨fun _ => ⟨rfl, end_stays HR.out fun _ _ => rfl⟩, fun _ => rfl⟩
    refine hcall.mono ?_
    clear hcall
    rintro e w4 ⟨rfl, k4, rfl⟩
    have HF4 := Lib.hid (HF3.out.drewN k4)
    have HB4 := Lib.hid (below_drewN HB3.out k4)
    clear HF3 HB3 HR3
    go_wp2_with fail
    rcases round_cases n m a b c t k d with hgr | ⟨v, -, hf⟩
    · have ek : k = n := by have := hgr.2.2.2.1; omega
      subst ek
      have HRD := Lib.hid hgr.2.2.2.2
      clear hgr
      have hcall := bellRound_ok k t k t rfl rfl A D m cp cd k rfl a b c d (w3.drewN k4) (HL.out.keep HB4.out) (HD.out.keep HB4.out) hm HG.out ht HRD.out
      refine hcall.mono ?_
      clear hcall
      rintro e w5 ⟨g5, rfl, hg5, hrow5, hb5⟩
      have HF5 := Lib.hid (HF4.out.below hb5 HF4.out.lt)
      have HR5 : Hid (RowP w5 g5 3 k fun i => .int .i64 (rounds t a b c m d 1 i)) := hrow5
      have HB5 := Lib.hid (keep HB4.out hb5)
      clear hrow5 hb5 HB4 HF4 hg5
      go_wp2_with fail
      go_loopw [16, 17] (fun v i wr => ∃ r g6 : Nat, r ≤ 16 ∧ i = .int .i64 r ∧ v = .slice (some ⟨g6, 0, none⟩) k k ∧ RowP wr g6 3 k (fun i => .int .i64 (rounds t a b c m d (r + 1) i)) ∧ RowP wr g 3 k (fun i => .int .i64 (endF t a b c m i)) ∧ Below w.heap.size w wr) (fun _ i _ => 16 - (intOf i).toNat)
      case atStart => exact ⟨0, g5, by omega, rfl, rfl, HR5.out, HF5.out, HB5.out⟩
      case round =>
        obtain ⟨r, g6, hr, rfl, rfl, hrow, hrowF, hb⟩ := hrel
        clear HF5 HR5 HB5
        have HRW := Lib.hid hrow
        have HF := Lib.hid hrowF
        have HB := Lib.hid hb
        clear hrow hrowF hb
        by_cases hlt : r < 16
        · have hlt' : (r : Int) < 16 := by omega
          go_wp2_with fail
          have hcall := bellRound_ok k t k t rfl rfl A (some ⟨g6, 0, none⟩) m cp k k rfl a b c (rounds t a b c m d (r + 1)) wr (HL.out.keep HB.out) HRW.out.vec hm HG.out ht (rounds_ranged HR.out HRD.out (r + 1))
          refine hcall.mono ?_
          clear hcall
          rintro e w7 ⟨g7, rfl, -, hrow7, hb7⟩
          have HF7 := Lib.hid (HF.out.below hb7 HF.out.lt)
          have HR7 := Lib.hid hrow7
          have HB7 := Lib.hid (keep HB.out hb7)
          clear hrow7 hb7 HB HF HRW
          go_wp2_with fail
          go_roundw
          case rel => exact ⟨r + 1, g7, by omega, by go_num, rfl, HR7.out, HF7.out, HB7.out⟩
          case measure => simp [intOf]; omega
        · have er : r = 16 := by omega
          subst er
          go_wp2_with fail
          have hcall := ints_walk (some ⟨g6, 0, none⟩) (some ⟨g, 0, none⟩) k k k k _ _ wr HRW.out.vec HF.out.vec (by omega) (by omega) true ⟨fun _ => ⟨rfl, end_seventeen HR.out HRD.out (by omega)⟩, fun _ => rfl⟩
          refine hcall.mono ?_
          clear hcall
          rintro e w7 ⟨rfl, k7, rfl⟩
          go_wp2_with fail
          go_ret
          exact ⟨rfl, below_drewN HB.out _⟩
    · have HFR := Lib.hid hf
      clear hf
      have hcall := bellRound_bad n t A D m cp cd k a b c d (w3.drewN k4) (HL.out.keep HB4.out) (HD.out.keep HB4.out) hm hk v HFR.out
      refine hcall.mono ?_
      clear hcall
      rintro e w5 ⟨rfl, hb5⟩
      go_wp2_with fail
      go_ret
      exact ⟨rfl, keep HB4.out hb5⟩
  · have HFR := Lib.hid hf
    clear hf
    refine (bellRun_bad x y A m cp a b c w1 (HL.out.keep HB1.out) hm v HFR.out).mono ?_
    rintro e w2 ⟨rfl, hb2⟩
    go_wp2_with fail
    go_ret
    exact ⟨rfl, keep HB1.out hb2⟩

end Go.Proofs.Ytjijpcjbigdgjaa

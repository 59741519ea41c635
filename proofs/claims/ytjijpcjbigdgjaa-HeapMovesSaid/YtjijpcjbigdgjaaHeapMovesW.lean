/- HeapMoves: a key that changes is as if it had been put so at once. For all inputs; no condition. -/
import Derived.Test.YtjijpcjbigdgjaaHeapMoves
namespace Go.Proofs.Ytjijpcjbigdgjaa
open Go.RowKit
set_option linter.unusedVariables false

theorem moves_loop1 {W w : World} {g h n i k : Nat} {f : Nat → Int} (hki : k ≠ i) (t : TwoHp W w g h n (if lowK k k then k else k + 1) (if lowBut i k k then cntBut i k else cntBut i k + 1) (upd (lowK k) k true) (upd (lowBut i k) k true) (upd f k (f k)) (upd f k (f k))) :
    TwoHp W w g h n (k + 1) (cntBut i (k + 1)) (lowK (k + 1)) (lowBut i (k + 1)) f f := by
  rw [lowK_put, lowBut_put hki, upd_self] at t
  have e1 : (if lowK k k then k else k + 1) = k + 1 := by simp [lowK]
  have e2 : (if lowBut i k k then cntBut i k else cntBut i k + 1) = cntBut i (k + 1) := by
    have : lowBut i k k = false := by simp [lowBut]
    rw [this]
    simp only [Bool.false_eq_true, if_false]
    unfold cntBut
    by_cases h1 : i < k
    · rw [if_pos h1, if_pos (by omega)]; omega
    · rw [if_neg h1, if_neg (by omega)]
  rw [e1, e2] at t
  exact t

set_option maxRecDepth 100000 in
set_option maxHeartbeats 1600000 in
/-- The middle of the law: all have been put, both heaps are alike; they are emptied side by side. -/
theorem heapMoves_in (A : Option Addr) (n c : Nat) (f : Nat → Int) (i : Nat) (x y : Int) (w : World) (hv : Vec w A n f) (hn : n ≤ 200) (hi : i < n) :
    Calls Try.prog 8 #[.slice A n c, .int .i64 i, .int .i64 x, .int .i64 y] w fun e w' => e = .returned (.bool true) ∧ Below w.heap.size w w' := by
  have HV := Lib.hid hv
  clear hv
  have hi' : (i : Int) < n := by omega
  have hn' : (n : Int) ≤ 200 := by omega
  have b1 : decide ((i : Int) < 0) = false := by simp
  have b2 : decide (n ≤ i) = false := by simp; omega
  have b3 : decide (200 < n) = false := by simp; omega
  have b4 : decide ((n : Int) ≤ i) = false := by simp; omega
  have b5 : decide (200 < (n : Int)) = false := by simp; omega
  go_enter Try.func8, Try.ntmps8
  go_wp2_with fail
  refine (heaped_walk w w (Below.refl _ _)).mono ?_
  rintro e w1 ⟨rfl, hb1⟩
  go_wp2_with fail
  refine (heapNew_ok n _ rfl f _ (by omega)).mono ?_
  rintro e w2 ⟨g, rfl, S, hp2, hb2, hs2, -⟩
  go_wp2_with fail
  refine (heapNew_ok n _ rfl f _ (by omega)).mono ?_
  rintro e w3 ⟨h, rfl, S', hp3, hb3, hs3, -⟩
  have hz1 := hb1.size
  have ht := TwoHp.of_new (W := w) (keep hb1 hb2) hp2 (fun b hb => by have := hs2 b hb; omega) hp3 hb3 hs3
  have HT : Hid (TwoHp w w3 g h n 0 (cntBut i 0) (lowK 0) (lowBut i 0) f f) := by
    have e : cntBut i 0 = 0 := by unfold cntBut; simp
    show TwoHp w w3 g h n 0 (cntBut i 0) (lowK 0) (lowBut i 0) f f
    rw [e]
    exact ht.congr (fun j _ => by simp [lowK]) (fun j _ => by simp [lowBut]) (fun _ _ h => rfl) (fun _ _ h => rfl)
  clear hb1 hp2 hb2 hs2 hp3 hb3 hs3 ht hz1
  go_wp2_with fail
  go_loopw [14] (fun v wr => ∃ k : Nat, k ≤ n ∧ v = .int .i64 k ∧ TwoHp w wr g h n k (cntBut i k) (lowK k) (lowBut i k) f f) (fun v _ => n - (intOf v).toNat)
  case atStart => exact ⟨0, by omega, rfl, HT.out⟩
  case round =>
    obtain ⟨k, hk, rfl, t⟩ := hrel
    clear HT
    by_cases hlt : k < n
    · obtain ⟨ad, hA, hadb, hc⟩ := HV.out k hlt
      have hb0 := t.bel
      have hc' : wr.cell? (ad.add k) = some (.int .i64 (f k)) := (hb0.cell (by rw [block_of_add]; exact hadb)).trans hc
      have HT := Lib.hid t
      have HC := Lib.hid hc
      subst hA
      clear t hb0 hc
      go_wp2_with fail
      have hcall := HT.out.put (i := k) _ (f k) rfl hlt
      refine hcall.mono ?_
      clear hcall
      rintro e w4 ⟨rfl, t4⟩
      clear hc'
      by_cases hki : k = i
      · subst hki
        have HT4 : Hid (TwoHp w w4 g h n (k + 1) (cntBut k (k + 1)) (lowK (k + 1)) (lowBut k (k + 1)) f f) := by
          rw [lowK_put, upd_self] at t4
          have e1 : (if lowK k k then k else k + 1) = k + 1 := by simp [lowK]
          have e2 : cntBut k k = cntBut k (k + 1) := by unfold cntBut; simp
          rw [e1, e2, lowBut_skip] at t4
          exact t4
        clear t4
        go_wp2_with fail
        go_roundw
        case rel => first | exact ⟨k + 1, by omega, by go_num, HT4.out⟩ | ((repeat apply Exists.intro); refine ⟨?_, rfl⟩; exact ⟨k + 1, by omega, by go_num, HT4.out⟩)
        case measure => simp [intOf]; omega
      · have hne : ((k : Int) == (i : Int)) = false := by simp; omega
        have hne' : (k == i) = false := by simp; omega
        have hb4 := t4.bel
        have hc4 : w4.cell? (ad.add k) = some (.int .i64 (f k)) := (hb4.cell (by rw [block_of_add]; exact hadb)).trans HC.out
        have HT4 := Lib.hid t4
        have HKI := Lib.hid hki
        clear t4 hb4 hki
        go_wp2_with fail
        have hcall := HT4.out.swap.put (i := k) _ (f k) rfl hlt
        refine hcall.mono ?_
        clear hcall
        rintro e w5 ⟨rfl, t5⟩
        have HT5 := Lib.hid (moves_loop1 HKI.out t5.swap)
        clear t5 hc4
        go_wp2_with fail
        go_roundw
        case rel => first | exact ⟨k + 1, by omega, by go_num, HT5.out⟩ | ((repeat apply Exists.intro); refine ⟨?_, rfl⟩; exact ⟨k + 1, by omega, by go_num, HT5.out⟩)
        case measure => simp [intOf]; omega
    · have ek : k = n := by omega
      subst ek
      have HT := Lib.hid t
      clear t
      go_wp2_with fail
      have hcall := HT.out.put (i := i) _ x rfl hi
      refine hcall.mono ?_
      clear hcall
      rintro e w4 ⟨rfl, t4⟩
      go_wp2_with fail
      have hcall := t4.put (i := i) _ y rfl hi
      refine hcall.mono ?_
      clear hcall
      rintro e w5 ⟨rfl, t5⟩
      clear t4
      go_wp2_with fail
      have hcall := t5.swap.put (i := i) _ y rfl hi
      refine hcall.mono ?_
      clear hcall
      rintro e w6 ⟨rfl, t6⟩
      clear t5
      have HT6 : Hid (∃ has, (∀ j, j < k → has j = true) ∧ TwoHp w w6 g h k (k - 0) (k - 0) has has (upd f i y) (upd f i y)) := by
        refine ⟨fun _ => true, fun _ _ => rfl, ?_⟩
        have t7 := t6.swap
        have e1 : (if upd (lowK k) i true i = true then if lowK k i = true then k else k + 1 else (if lowK k i = true then k else k + 1) + 1) = k - 0 := by
          rw [upd_same]; simp [lowK, hi]
        have e2 : (if lowBut i k i = true then cntBut i k else cntBut i k + 1) = k - 0 := by
          have : lowBut i k i = false := by simp [lowBut]
          rw [this]
          unfold cntBut
          rw [if_pos hi]
          simp
          omega
        rw [e1, e2, upd_upd, upd_upd] at t7
        refine t7.congr (fun j hj => ?_) (fun j hj => ?_) (fun _ _ _ => rfl) (fun _ _ _ => rfl)
        · by_cases e : j = i
          · subst e; rw [upd_same]
          · rw [upd_other _ _ e]; simp [lowK, hj]
        · by_cases e : j = i
          · subst e; rw [upd_same]
          · rw [upd_other _ _ e]; simp [lowBut, hj, e]
      clear t6
      go_wp2_with fail
      go_loopw [15] (fun v wr => ∃ m : Nat, m ≤ k ∧ v = .int .i64 m ∧ ∃ has, TwoHp w wr g h k (k - m) (k - m) has has (upd f i y) (upd f i y)) (fun v _ => k - (intOf v).toNat)
      case atStart =>
        obtain ⟨has, _, t⟩ := HT6.out
        exact ⟨0, by omega, rfl, has, t⟩
      case round =>
        obtain ⟨m, hm, rfl, has, t⟩ := hrel
        clear HT6 HT
        by_cases hlt : m < k
        · have HT := Lib.hid t
          clear t
          go_wp2_with fail
          have hcall := HT.out.min (by omega)
          refine hcall.mono ?_
          clear hcall
          rintro e w7 ⟨a, rfl, hla, t7⟩
          go_wp2_with fail
          have hcall := t7.swap.min (by omega)
          refine hcall.mono ?_
          clear hcall
          rintro e w8 ⟨b, rfl, hlb, t8⟩
          have hab := hla.one hlb
          subst hab
          have HT8 := Lib.hid t8.swap
          have HLA := Lib.hid hla
          clear t7 t8 hla hlb
          go_wp2_with fail
          have hcall := HT8.out.drop (i := a) _ rfl HLA.out.1 HLA.out.2.1
          refine hcall.mono ?_
          clear hcall
          rintro e w9 ⟨rfl, t9⟩
          have HT9 := Lib.hid t9.swap
          clear t9
          go_wp2_with fail
          have hcall := HT9.out.drop (i := a) _ rfl HLA.out.1 HLA.out.2.1
          refine hcall.mono ?_
          clear hcall
          rintro e w10 ⟨rfl, t10⟩
          have HT10 := Lib.hid t10.swap
          clear t10
          go_wp2_with fail
          go_roundw
          case rel => first | exact ⟨m + 1, by omega, by go_num, _, HT10.out⟩ | ((repeat apply Exists.intro); refine ⟨?_, rfl⟩; exact ⟨m + 1, by omega, by go_num, _, HT10.out⟩)
          case measure => simp [intOf]; omega
        · have em : m = k := by omega
          subst em
          have hb7 := t.bel
          have HT := Lib.hid t
          clear t
          go_wp2_with fail
          have hcall := HT.out.len
          refine hcall.mono ?_
          clear hcall
          rintro e w7 ⟨rfl, rfl⟩
          rw [Nat.sub_self] at HT ⊢
          go_wp2_with fail
          have hcall := HT.out.swap.len
          refine hcall.mono ?_
          clear hcall
          rintro e w7 ⟨rfl, rfl⟩
          go_wp2_with fail
          go_ret
          exact ⟨rfl, hb7⟩

set_option maxRecDepth 100000 in
set_option maxHeartbeats 1600000 in
theorem heapMoves_walk (A : Option Addr) (n c : Nat) (f : Nat → Int) (z x y : Int) (w : World) (hv : Vec w A n f) (hn : n ≤ 9223372036854775807) :
    Calls Try.prog 8 #[.slice A n c, .int .i64 z, .int .i64 x, .int .i64 y] w fun e w' => e = .returned (.bool true) ∧ Below w.heap.size w w' := by
  by_cases h5 : 5000 < n
  · have h5' : ((n : Int) < 0 ∨ 5000 < (n : Int)) := by omega
    have H5 := Lib.hid h5'
    clear h5' hv
    go_enter Try.func8, Try.ntmps8
    go_wp2_with fail
    refine (heaped_walk w w (Below.refl _ _)).mono ?_
    rintro e w1 ⟨rfl, hb1⟩
    go_wp2_with fail
    refine (heapNew_bad _ _ H5.out).mono ?_
    rintro e w2 ⟨rfl, rfl⟩
    go_wp2_with fail
    refine (heapNew_bad _ _ H5.out).mono ?_
    rintro e w2 ⟨rfl, rfl⟩
    go_wp2_with fail
    go_ret
    exact ⟨rfl, hb1⟩
  · by_cases hin : 0 ≤ z ∧ z < n ∧ n ≤ 200
    · obtain ⟨i, rfl⟩ := Int.eq_ofNat_of_zero_le hin.1
      exact heapMoves_in A n c f i x y w hv hin.2.2 (by omega)
    · have hz : z < 0 ∨ (0 ≤ z ∧ (n : Int) ≤ z) ∨ (0 ≤ z ∧ z < n ∧ 200 < (n : Int)) := by omega
      have HZ := Lib.hid hz
      clear hz hin hv
      go_enter Try.func8, Try.ntmps8
      go_wp2_with fail
      refine (heaped_walk w w (Below.refl _ _)).mono ?_
      rintro e w1 ⟨rfl, hb1⟩
      go_wp2_with fail
      refine (heapNew_ok n _ rfl f _ (by omega)).mono ?_
      rintro e w2 ⟨g, rfl, S, hp2, hb2, hs2, -⟩
      go_wp2_with fail
      refine (heapNew_ok n _ rfl f _ (by omega)).mono ?_
      rintro e w3 ⟨h, rfl, S', hp3, hb3, hs3, -⟩
      have HB := Lib.hid (keep hb1 (keep hb2 hb3))
      clear hb1 hp2 hb2 hs2 hp3 hb3 hs3
      rcases HZ.out with h1 | ⟨h1, h2⟩ | ⟨h1, h2, h3⟩
      · go_wp2_with fail
        go_ret
        exact ⟨rfl, HB.out⟩
      · have h3 : ¬ z < 0 := by omega
        go_wp2_with fail
        go_ret
        exact ⟨rfl, HB.out⟩
      · have h4 : ¬ z < 0 := by omega
        have h6 : ¬ (n : Int) ≤ z := by omega
        go_wp2_with fail
        go_ret
        exact ⟨rfl, HB.out⟩

end Go.Proofs.Ytjijpcjbigdgjaa

/- The walk of slices.Repeat over one thought, few times. -/
import Derived.Test.YtlbdbfmgkappaaaDoorCopy2
namespace Go.Proofs.YtlbdbfmgkappaaaDoor
open Go.RowKit
set_option linter.unusedVariables false

theorem infoTh : (Tryd.prog.info? 94).map (fun i => (i.zero, i.size, i.bytes)) = some (some (.agg #[.int .i64 0, .int .i64 0]), 2, 16) := by kernel_rfl
theorem infoTh2 : (Tryd.prog.info? 94).map (·.size) = some 2 := by kernel_rfl

set_option maxRecDepth 100000 in
set_option maxHeartbeats 1000000 in
theorem repeat_thoughts (b n : Nat) (x p q : Int) (w : World) (hx : x = (n : Int)) (h1 : 1 ≤ n) (h8 : n ≤ 8) (hc : w.cell? ⟨b, 0, none⟩ = some (.int .i64 p)) (hc1 : w.cell? ⟨b, 1, none⟩ = some (.int .i64 q)) :
    Calls Tryd.prog 50 #[.slice (some ⟨b, 0, none⟩) 1 1, .int .i64 x] w fun e w' => e = .returned (.slice (some ⟨w.heap.size, 0, none⟩) n n) ∧
      Blk w' w.heap.size 94 (pairs2 (.int .i64 p) (.int .i64 q) n).toArray ∧ Below w.heap.size w w' := by
  subst hx
  obtain ⟨i0, hi0, hz0, hz1, hz2⟩ := info_parts infoTh
  have hmk := run_make (P := Tryd.prog) w 91 94 i0 _ Tryd.underlying91 hi0 hz0 .i64 .i64 n n (by omega) (Int.le_refl _) (by rw [hz2]; omega) (by omega)
  simp only [Int.toNat_natCast, hz1] at hmk
  have hb := World.block_lt_of_cell? w _ hc
  simp at hb
  have h8' : (n : Int) ≤ 8 := by omega
  have h1' : (1 : Int) ≤ n := by omega
  have HB := Lib.hid hb
  clear hb hi0 hz0 hz1 hz2
  have e0 : madeCells (Value.agg #[.int .i64 0, .int .i64 0]).cells (n * 2) = (half2 (.int .i64 p) (.int .i64 q) (.int .i64 0) n 0).toArray := by
    apply Array.ext_getElem?
    intro t
    unfold madeCells half2
    by_cases ht : t < n * 2
    · simp [ht, Value.cells]
      rcases Nat.mod_two_eq_zero_or_one t with h | h <;> simp [h]
    · rw [Array.getElem?_eq_none (by simp; omega), List.getElem?_toArray, List.getElem?_eq_none (by simp; omega)]
  rw [e0] at hmk
  clear e0
  go_enter Tryd.func50, Tryd.ntmps50
  go_wp2_with fail
  refine (bitsMul n h8 _).mono ?_
  rintro e w1 ⟨rfl, rfl⟩
  have HG : Hid (Blk (w.alloc (.cells (half2 (.int .i64 p) (.int .i64 q) (.int .i64 0) n 0).toArray 94)) w.heap.size 94 (half2 (.int .i64 p) (.int .i64 q) (.int .i64 0) n 0).toArray) := Blk.new _ _ _
  have HC : Hid (∀ j u, (pairs2 (.int .i64 p) (.int .i64 q) 1)[j]? = some u → (w.alloc (.cells (half2 (.int .i64 p) (.int .i64 q) (.int .i64 0) n 0).toArray 94)).cell? ((⟨b, 0, none⟩ : Addr).add j) = some u) := by
    intro j u hu
    have hj : j < 2 := by
      have := (List.getElem?_eq_some_iff.1 hu).1
      simpa [pairs2] using this
    rw [Addr.add_lit, Nat.zero_add, World.cell?_alloc_lt w _ ⟨b, j, none⟩ HB.out]
    have h2 : j = 0 ∨ j = 1 := by omega
    rcases h2 with rfl | rfl
    · rw [hc]; exact hu
    · rw [hc1]; exact hu
  go_wp2_with ((refine wpList_copy_two rfl (.tmp 31) (.tmp 32) 91 91 rfl 94 Tryd.underlying91 infoTh2 w.heap.size 0 n n 1 1 1 ⟨b, 0, none⟩ rfl rfl (half2 (.int .i64 p) (.int .i64 q) (.int .i64 0) n 0) 94 HG.out (pairs2 (.int .i64 p) (.int .i64 q) 1) (by show 1 = min 1 n; omega) (by simp [pairs2]) HC.out (by simp [half2, pairs2]; omega) (by intro u hu; unfold pairs2 at hu; obtain ⟨_, _, rfl⟩ := List.mem_map.1 hu; split <;> rfl) w.heap.size w ((Below.refl _ _).alloc (Nat.le_refl _) _) (Nat.le_refl _) ?_))
  intro w2 hg2 hb2
  have hg3 : Blk w2 w.heap.size 94 (half2 (.int .i64 p) (.int .i64 q) (.int .i64 0) n 1).toArray := by
    have e := splice_half2 (.int .i64 p) (.int .i64 q) (.int .i64 0) n 0 1 (by omega)
    have h := hg2.out
    rw [show (0 : Nat) = 0 * 2 from rfl, e] at h
    exact h
  have HG3 := Lib.hid hg3
  have HB3 := Lib.hid hb2
  clear hg2 hb2 hg3 HG HC hmk
  go_wp2_with fail
  go_loopw [8] (fun i wr => ∃ j : Nat, 1 ≤ j ∧ j ≤ n ∧ i = .int .i64 j ∧ Blk wr w.heap.size 94 (half2 (.int .i64 p) (.int .i64 q) (.int .i64 0) n j).toArray ∧ Below w.heap.size w wr) (fun i _ => n - (intOf i).toNat)
  case atStart => exact ⟨1, by omega, by omega, rfl, HG3.out, HB3.out⟩
  case round =>
    obtain ⟨j, hj1, hj, rfl, hg, hb⟩ := hrel
    clear HG3 HB3
    by_cases hlt : j < n
    · have hlt' : (j : Int) < n := by omega
      have hne : n ≠ j := by omega
      have HG := Lib.hid hg
      have HB := Lib.hid hb
      have HS : Hid (∀ i u, (pairs2 (.int .i64 p) (.int .i64 q) (min j (n - j)))[i]? = some u → wr.drew.cell? ((⟨w.heap.size, 0, none⟩ : Addr).add i) = some u) := by
        intro i u hu
        have hi : i < min j (n - j) * 2 := by
          have := (List.getElem?_eq_some_iff.1 hu).1
          simpa [pairs2] using this
        rw [Addr.add_lit, Nat.zero_add, (hg.drew).cell, ← hu]
        unfold half2 pairs2
        rw [List.getElem?_toArray, List.getElem?_map, List.getElem?_map, List.getElem?_range (by omega), List.getElem?_range hi]
        simp [show i < j * 2 by omega]
      clear hg hb
      go_wp2_with fail
      go_region_law (refine step_copy_two rfl (.tmp 41) (.tmp 44) 91 91 rfl 94 Tryd.underlying91 infoTh2 w.heap.size (j * 2) (n - j) (n - j) j n (min j (n - j)) ⟨w.heap.size, 0, none⟩ (by simp [Act.eval, Act.put]) (by simp [Act.eval, Act.put]) (half2 (.int .i64 p) (.int .i64 q) (.int .i64 0) n j) 94 HG.out (pairs2 (.int .i64 p) (.int .i64 q) (min j (n - j))) rfl (by simp [pairs2]) HS.out (by simp [half2, pairs2]; omega) (by intro u hu; unfold pairs2 at hu; obtain ⟨_, _, rfl⟩ := List.mem_map.1 hu; split <;> rfl) w.heap.size w HB.out.drew (Nat.le_refl _) ?_; intro w4 hg4 hb4)
      have hg5 : Blk w4 w.heap.size 94 (half2 (.int .i64 p) (.int .i64 q) (.int .i64 0) n (j + min j (n - j))).toArray := by
        have h := hg4.out
        rw [splice_half2 _ _ _ _ _ _ (by omega)] at h
        exact h
      have HG5 := Lib.hid hg5
      have HB5 := Lib.hid hb4
      clear hg4 hg5 hb4
      go_simp
      go_wp2_with fail
      go_roundw
      case rel =>
        refine ⟨j + min j (n - j), by omega, by omega, ?_, HG5.out, HB5.out⟩
        rw [IntWalk.i64_in _ (by omega)]
        congr 1
      case measure =>
        rw [IntWalk.i64_in _ (by omega)]
        simp only [intOf]
        omega
    · have ej : j = n := by omega
      subst ej
      have e : half2 (.int .i64 p) (.int .i64 q) (.int .i64 0) j j = pairs2 (.int .i64 p) (.int .i64 q) j := by
        unfold half2 pairs2
        apply List.map_congr_left
        intro t ht
        rw [if_pos (List.mem_range.1 ht)]
      rw [e] at hg
      have HG := Lib.hid hg
      clear hg
      go_wp2_with fail
      go_ret
      exact ⟨rfl, HG.out, hb⟩

end Go.Proofs.YtlbdbfmgkappaaaDoor

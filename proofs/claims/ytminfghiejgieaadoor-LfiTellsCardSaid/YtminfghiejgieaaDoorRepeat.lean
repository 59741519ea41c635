/- The walk of slices.Repeat over one number, few times. -/
import Derived.Test.YtminfghiejgieaaDoorBitsMul
namespace Go.Proofs.YtminfghiejgieaaDoor
open Go.RowKit
set_option linter.unusedVariables false

theorem infoInt' : (Tryd.prog.info? 3).map (·.size) = some 1 := by kernel_rfl
theorem infoInt3 : (Tryd.prog.info? 3).map (fun i => (i.zero, i.size, i.bytes)) = some (some (.int .i64 0), 1, 8) := by kernel_rfl

/-- The row in the middle of Repeat. -/
def half (v : Value) (n j : Nat) : List Value := List.replicate j v ++ List.replicate (n - j) (.int .i64 0)

theorem splice_half (v : Value) (n j m : Nat) (h : j + m ≤ n) : splice (half v n j) j (List.replicate m v) = half v n (j + m) := by
  unfold splice half
  rw [List.take_append_of_le_length (by simp), List.take_of_length_le (by simp), List.length_replicate]
  rw [List.drop_append]
  have e1 : (List.replicate j v).drop (j + m) = [] := List.drop_eq_nil_of_le (by simp)
  rw [e1, List.nil_append, List.length_replicate, List.drop_replicate, ← List.append_assoc, List.replicate_append_replicate]
  congr 2
  omega

set_option maxRecDepth 100000 in
set_option maxHeartbeats 1000000 in
theorem repeat_ints (b n : Nat) (x v : Int) (w : World) (hx : x = (n : Int)) (h1 : 1 ≤ n) (h8 : n ≤ 8) (hc : w.cell? ⟨b, 0, none⟩ = some (.int .i64 v)) :
    Calls Tryd.prog 42 #[.slice (some ⟨b, 0, none⟩) 1 1, .int .i64 x] w fun e w' => e = .returned (.slice (some ⟨w.heap.size, 0, none⟩) n n) ∧
      Blk w' w.heap.size 3 (List.replicate n (.int .i64 v)).toArray ∧ Below w.heap.size w w' := by
  subst hx
  have hmk := run_make_row' (P := Tryd.prog) 24 3 (.int .i64 0) 8 Tryd.underlying24 infoInt3 rfl .i64 .i64 n (by omega) (by omega)
  have hb := World.block_lt_of_cell? w _ hc
  simp at hb
  have h8' : (n : Int) ≤ 8 := by omega
  have h1' : (1 : Int) ≤ n := by omega
  have HB := Lib.hid hb
  clear hb
  go_enter Tryd.func42, Tryd.ntmps42
  go_wp2_with fail
  refine (bitsMul n h8 _).mono ?_
  rintro e w1 ⟨rfl, rfl⟩
  have HG : Hid ((w.alloc (.cells (madeCells #[.int .i64 0] n) 3)).heap[w.heap.size]? = some (.cells (half (.int .i64 v) n 0).toArray 3 (0, 0))) := by
    show (w.alloc (.cells (madeCells #[.int .i64 0] n) 3)).heap[w.heap.size]? = some (.cells (half (.int .i64 v) n 0).toArray 3 (0, 0))
    rw [heap_alloc_new]
    have e : madeCells #[.int .i64 0] n = (half (.int .i64 v) n 0).toArray := by
      apply Array.toList_inj.1
      rw [toList_madeCells_one]
      simp [half]
    rw [e]
  have HC : Hid (∀ j u, [Value.int .i64 v][j]? = some u → (w.alloc (.cells (madeCells #[.int .i64 0] n) 3)).cell? ((⟨b, 0, none⟩ : Addr).add j) = some u) := by
    intro j u hu
    match j, hu with
    | 0, hu =>
      simp at hu
      subst hu
      have := World.cell?_alloc_lt w (.cells (madeCells #[.int .i64 0] n) 3) ⟨b, 0, none⟩ HB.out
      simp only [Addr.add, if_pos]
      rw [this]
      exact hc
  go_wp2_with ((refine wpList_copy_splice rfl (.tmp 31) (.tmp 32) 24 24 rfl 3 Tryd.underlying24 infoInt' _ _ _ _ _ _ rfl rfl w.heap.size 0 (half (.int .i64 v) n 0) 3 HG.out [.int .i64 v] (by show 1 = min 1 n; omega) (fun _ => ⟨rfl, _, rfl, HC.out⟩) (by simp [half]; omega) (by simp [Value.oneCell']) w.heap.size w ((Below.refl _ _).alloc (Nat.le_refl _) _) (Nat.le_refl _) ?_))
  intro w2 hg2 hb2
  have hg3 : Blk w2 w.heap.size 3 (half (.int .i64 v) n 1).toArray := by
    have e := splice_half (.int .i64 v) n 0 1 (by omega)
    have h := hg2.out
    rw [show [Value.int .i64 v] = List.replicate 1 (.int .i64 v) from rfl, e] at h
    exact h
  have HG3 := Lib.hid hg3
  have HB3 := Lib.hid hb2
  clear hg2 hb2 hg3 HG HC hmk
  go_wp2_with fail
  go_loopw [8] (fun i wr => ∃ j : Nat, 1 ≤ j ∧ j ≤ n ∧ i = .int .i64 j ∧ Blk wr w.heap.size 3 (half (.int .i64 v) n j).toArray ∧ Below w.heap.size w wr) (fun i _ => n - (intOf i).toNat)
  case atStart => exact ⟨1, by omega, by omega, rfl, HG3.out, HB3.out⟩
  case round =>
    obtain ⟨j, hj1, hj, rfl, hg, hb⟩ := hrel
    clear HG3 HB3
    by_cases hlt : j < n
    · have hlt' : (j : Int) < n := by omega
      have hne : n ≠ j := by omega
      have HG := Lib.hid hg
      have HB := Lib.hid hb
      have HS : Hid (∀ i u, (List.replicate (min j (n - j)) (Value.int .i64 v))[i]? = some u → wr.drew.cell? ((⟨w.heap.size, 0, none⟩ : Addr).add i) = some u) := by
        intro i u hu
        have hi : i < min j (n - j) := by
          have := (List.getElem?_eq_some_iff.1 hu).1
          simpa using this
        rw [Addr.add_lit, Nat.zero_add, (hg.drew).cell]
        rw [List.getElem?_replicate, if_pos hi] at hu
        simp [half, List.getElem?_append, show i < j by omega]
        simpa using hu
      clear hg hb
      go_wp2_with fail
      go_region_law (refine step_copy_splice rfl (.tmp 41) (.tmp 44) 24 24 rfl 3 Tryd.underlying24 infoInt' (some ⟨w.heap.size, j, none⟩) (some ⟨w.heap.size, 0, none⟩) (n - j) (n - j) j n (by simp [Act.eval, Act.put]) (by simp [Act.eval, Act.put]) w.heap.size j (half (.int .i64 v) n j) 3 HG.out (List.replicate (min j (n - j)) (.int .i64 v)) (by show _ = min j (n - j); simp) (fun _ => ⟨rfl, _, rfl, HS.out⟩) (by simp [half]; omega) (by intro u hu; obtain ⟨_, rfl⟩ := List.mem_replicate.1 hu; rfl) w.heap.size w HB.out.drew (Nat.le_refl _) ?_; intro w4 hg4 hb4)
      have hg5 : Blk w4 w.heap.size 3 (half (.int .i64 v) n (j + min j (n - j))).toArray := by
        have h := hg4.out
        rw [splice_half _ _ _ _ (by omega)] at h
        exact h
      have HG5 := Lib.hid hg5
      have HB5 := Lib.hid hb4
      clear hg4 hg5 hb4
      go_simp
      go_wp2_with fail
      go_roundw
      case rel =>
        refine ⟨j + min j (n - j), by omega, by omega, ?_, HG5.out, HB5.out⟩
        rw [IntWalk.i64_in _ (by omega)]
        congr 1
      case measure =>
        rw [IntWalk.i64_in _ (by omega)]
        simp only [intOf]
        omega
    · have ej : j = n := by omega
      subst ej
      have e : half (.int .i64 v) j j = List.replicate j (.int .i64 v) := by simp [half]
      rw [e] at hg
      have HG := Lib.hid hg
      clear hg
      go_wp2_with fail
      go_ret
      exact ⟨rfl, HG.out, hb⟩

end Go.Proofs.YtminfghiejgieaaDoor

/- A line's Cut of any two different nodes: the link or none. -/
import Derived.Test.YtbepfmcaolmhgaaDoorLineCut
namespace Go.Proofs.YtbepfmcaolmhgaaDoor
open Go.RowKit
set_option linter.unusedVariables false

set_option maxRecDepth 100000 in
set_option maxHeartbeats 2000000 in
theorem lineCut_none (s n m : Nat) (u v : Int) (lo : Nat) (po : Bool) (a b c : Nat → Int) (F G : Nat → Nat → Int) (w : World) (h : LineH w lo s po n m a b c F G) (h1 : 1 ≤ n) (h8 : n ≤ 8) (hm : m ≤ 9223372036854775807) (hr : Right n m a b c)
    (hn : ∀ j, j < m → ¬ Mt a b j u v) :
    Calls Tryd.prog 11 #[.pointer (some ⟨s, 0, none⟩), .int .i64 u, .int .i64 v] w fun e w' => e = .returned (errNo 2) ∧ Below w.heap.size w w' := by
  obtain ⟨lA, lc, gr, gc, B, C, h⟩ := h
  have hg : GoodG n m a b c := ⟨by omega, by omega, by simpa using hr⟩
  have c0 := h.blk.cell 0
  have c2 := h.blk.cell 2
  simp at c0 c2
  have hls := h.blk.lt
  have h8' : (n : Int) ≤ 8 := by omega
  have HW := Lib.hid h
  have HG := Lib.hid hg
  have HMT := Lib.hid hn
  have HC0 : Hid (w.drew.cell? ⟨s, 2, none⟩ = some (.slice (some ⟨gr, 0, none⟩) n gc) ∧ w.drew.cell? ⟨s, 0, none⟩ = some (.slice lA m lc)) := ⟨c2, c0⟩
  have HKP : Hid (∀ w4, Below w.heap.size w.drew w4 → w4.cell? ⟨s, 2, none⟩ = some (.slice (some ⟨gr, 0, none⟩) n gc) ∧ w4.cell? ⟨s, 0, none⟩ = some (.slice lA m lc)) := fun w4 hb => ⟨(hb.cell (p := ⟨s, 2, none⟩) hls).trans HC0.out.1, (hb.cell (p := ⟨s, 0, none⟩) hls).trans HC0.out.2⟩
  clear h hg hr hn
  go_enter Tryd.func11, Tryd.ntmps11
  go_wp2_with fail
  go_region_held3 (fun w' => w'.cell? ⟨s, 2, none⟩ = some (.slice (some ⟨gr, 0, none⟩) n gc) ∧ w'.cell? ⟨s, 0, none⟩ = some (.slice lA m lc))
    (first | exact HC0.out | exact HKP.out _ hb4 | go_keep)
    (first | (go_at_call 18; refine (cut_none n u v lA m lc a b c _ (HW.out.lks.lnk.keep ((Below.refl w.heap.size w).drew)) hm HG.out HMT.out).mono ?_; rintro e w4 ⟨rfl, hb4⟩))
  all_goals
    have HB : Hid (Below w.heap.size w w4) := ((Below.refl w.heap.size w).drew).trans hb4
    clear hb4 HC0 HKP c0 c2
    go_wp2_with fail
    go_ret
    exact ⟨rfl, HB.out⟩

/-- Whichever it is. -/
theorem lineCut_any (s n m u v : Nat) (lo : Nat) (po : Bool) (a b c : Nat → Int) (S : Nat → Nat → Int × Int) (w : World) (hN : NobT w) (h : LineH w lo s po n m a b c (fun i t => (S i t).1) (fun i t => (S i t).2)) (h1 : 1 ≤ n) (h8 : n ≤ 8) (hm : m ≤ 9223372036854775807) (hr : Right n m a b c)
    (hu : u < n) (hv : v < n) (huv : u ≠ v) (hS : ∀ k t, k < n → t < n → 0 ≤ (S k t).1 ∧ (S k t).1 ≤ 16) (hlo : lo ≤ w.heap.size) (hnl : 0 < lo) :
    Calls Tryd.prog 11 #[.pointer (some ⟨s, 0, none⟩), .int .i64 u, .int .i64 v] w fun e w' => ∃ x, e = .returned x ∧ ∃ (m' : Nat) (a' b' c' : Nat → Int) (S' : Nat → Nat → Int × Int), m' ≤ 9223372036854775807 ∧ Right n m' a' b' c' ∧ (∀ k t, k < n → t < n → 0 ≤ (Prod.fst (S' k t)) ∧ (Prod.fst (S' k t)) ≤ (16 : Int)) ∧
      LineH w' lo s po n m' a' b' c' (fun i t => (S' i t).1) (fun i t => (S' i t).2) ∧ Fr lo w w' := by
  by_cases hex : ∃ j, j < m ∧ Mt a b j u v
  · obtain ⟨j, hj, hmt⟩ := hex
    refine (lineCut_ok s n m j u v lo po a b c S w hN h h1 h8 hm hr hj hu hv huv hmt hlo hnl).mono ?_
    rintro e w' ⟨rfl, hL, hF⟩
    exact ⟨_, rfl, m - 1, _, _, _, bothCut u v S, by omega, right_drop hr hj, cut_ranged hS, hL, hF⟩
  · refine (lineCut_none s n m u v lo po a b c _ _ w h h1 h8 hm hr (fun j hj hmt => hex ⟨j, hj, hmt⟩)).mono ?_
    rintro e w' ⟨rfl, hb⟩
    exact ⟨_, rfl, m, a, b, c, S, hm, hr, hS, h.below hb, Fr.of_below hb hlo⟩

end Go.Proofs.YtbepfmcaolmhgaaDoor

/- A node of the net thinks anew. -/
import Derived.Test.YtlemmphnmklbeaaLfiNexts
import Derived.Test.YtlemmphnmklbeaaTail
namespace Go.Proofs.Ytlemmphnmklbeaa
open Go.RowKit
set_option linter.unusedVariables false

attribute [local go_sem high] run_min_pair run_max_pair

set_option maxRecDepth 100000 in
set_option maxHeartbeats 1000000 in
theorem lfiAnew (lab : Nat → List Nat) (A : LAd) (n t : Nat) (s : LS) (i : Nat) (x : Int) (hx : x = (i : Int)) (w : World) (h : LN w lab A n t s) (h8 : n ≤ 8) (hi : i < n) (hK : CostM n s.K) (hH : ∀ r k, r < n → k < n → 0 ≤ s.h r k ∧ s.h r k ≤ 16) :
    Calls Try.prog 22 #[.pointer (some ⟨A.p, 0, none⟩), .int .i64 x] w fun e w' => e = .returned (.tuple #[]) ∧ LN w' lab A n t (s.anew n t i) ∧ AF lab w lab w' := by
  subst hx
  have HA := Lib.hid h
  obtain ⟨f0, -, f2, -⟩ := h.netCell
  have h8' : (n : Int) ≤ 8 := by omega
  have hi' : (i : Int) < n := by omega
  have r1 := h.nod.cell hi
  obtain ⟨a0, a1, a2⟩ := h.nodeCell hi
  have a3 := (h.nodr i hi).frozen 0
  by_cases hit : i = t
  · have b1 : ((i : Int) == (t : Int)) = true := by simp [hit]
    have b2 : (i == t) = true := by simp [hit]
    have HS : Hid (s.anew n t i = s) := Lib.hid (by rw [hit]; exact anew_self s)
    clear hit h
    go_enter Try.func22, Try.ntmps22
    go_wp2_with fail
    refine bodyPost_ret (results_none rfl _ _ _) rfl ?_
    exact ⟨rfl, HA.out.as HS.out.symm, AF.refl _ _⟩
  · have b1 : ((i : Int) == (t : Int)) = false := beq_false_of_ne (by omega)
    have b2 : (i == t) = false := beq_false_of_ne hit
    have HIT := Lib.hid hit
    have hN := h.setFar hi 16
    have hF : AF lab w lab (w.setCell ⟨A.BN i, 0, none⟩ (.int .i64 16)) := (AF.refl lab w).setCell (h.ln i hi) (by simp) 0 _
    have HN := Lib.hid hN
    have HF := Lib.hid hF
    clear hit h hN hF
    go_enter Try.func22, Try.ntmps22
    go_wp2_with fail
    obtain ⟨w1, hw1⟩ : ∃ w1, w.setCell ⟨A.BN i, 0, none⟩ (.int .i64 16) = w1 := ⟨_, rfl⟩
    rw [hw1] at HN HF ⊢
    clear hw1 a0 a1 a2 a3 r1 f0 f2
    have hcall := lfiNexts' lab A n t _ i w1 HN.out h8 hi
    rw [show LS.nexts { s with f := upd s.f i 16 } n t i = s.nexts n t i from rfl] at hcall
    have HC := Lib.hid hcall
    clear hcall
    obtain ⟨L, hL⟩ : ∃ L, s.nexts n t i = L := ⟨_, rfl⟩
    have HLE := Lib.hid hL
    rw [hL] at HC
    have hLn : L.length ≤ n := by rw [← hL]; exact pickL_len _ _
    have HLV : Hid (∀ j, j < L.length → ∃ v : Nat, atL L j = v ∧ v < n) := fun j hj => by
      rw [← hL] at hj ⊢
      obtain ⟨v, h1, h2, _⟩ := pick_at hj
      exact ⟨v, h1, h2⟩
    clear hL
    refine HC.out.mono ?_
    rintro e1 w2 ⟨v, rfl, hv, hb⟩
    obtain ⟨Av, cv, rfl, hvec⟩ := hv.vec
    have HVEC := Lib.hid hvec
    have HN2 : Hid (LN w2 lab A n t { s with f := upd s.f i (leastL (s.K i) (s.h i) L 0) }) := HN.out.below hb
    have HF2 : Hid (AF lab w lab w2) := HF.out.trans (AF.of_below hb)
    have HO : Hid (∀ g, (Value.slice Av L.length cv).ownBlock = some g → w1.heap.size ≤ g ∧ g < w2.heap.size) := fun g hg => World.ownsRow.lt hv g hg
    have HSZ := Lib.hid hb.size
    have HVO := Lib.hid hv
    have HLT : Hid (A.BN i < w1.heap.size) := (HN.out.nodr i hi).lt
    clear hv hb hvec HN HF HC
    go_wp2_with fail
    go_loopw [27] (fun q wr => ∃ j : Nat, j ≤ L.length ∧ q = .int .i64 j ∧ OwnV wr w1.heap.size (.slice Av L.length cv) L.length (atL L) ∧ LN wr lab A n t { s with f := upd s.f i (leastL (s.K i) (s.h i) L j) } ∧ AF lab w lab wr) (fun q _ => L.length - (intOf q).toNat)
    case atStart => exact ⟨0, by omega, rfl, HVO.out, HN2.out, HF2.out⟩
    case round =>
      obtain ⟨j, hj, rfl, hv, hA, hF⟩ := hrel
      have HVR := Lib.hid hv
      have HAR := Lib.hid hA
      have HFR := Lib.hid hF
      clear hv hF HN2 HF2
      by_cases hlt : j < L.length
      · have hlt' : (j : Int) < L.length := by omega
        obtain ⟨k, hk, hkn⟩ := HLV.out j hlt
        have hkn' : (k : Int) < n := by omega
        obtain ⟨A1, c1, hv1, hvr⟩ := HVR.out.vec
        have hav : A1 = Av := by
          simp only [Value.slice.injEq] at hv1
          exact hv1.1.symm
        subst hav
        obtain ⟨ad, rfl, -, hc⟩ := hvr j hlt
        rw [hk] at hc
        obtain ⟨-, g1, -, -⟩ := hA.netCell
        have g2 := hA.cst.cell hi
        have g3 := (hA.cstr i hi).cell hkn
        obtain ⟨g4, -, g5⟩ := hA.nodeCell hi
        have g6 := (hA.hrdr i hi).cell hkn
        have g7 := (hA.nodr i hi).frozen 0
        obtain ⟨c, hcc⟩ : ∃ c, s.K i k = c := ⟨_, rfl⟩
        obtain ⟨d, hd⟩ : ∃ d, s.h i k = d := ⟨_, rfl⟩
        obtain ⟨u, hu⟩ : ∃ u, leastL (s.K i) (s.h i) L j = u := ⟨_, rfl⟩
        have e1 : upd s.f i (leastL (s.K i) (s.h i) L j) i = u := by rw [upd_same, hu]
        have hc0 := hK.nonneg hi hkn
        have hc1 := hK.high i k hi hkn
        obtain ⟨hd0, hd1⟩ := hH i k hi hkn
        have hu1 : u ≤ 16 := by rw [← hu]; exact least_le j
        have HX : Hid (LN (wr.setCell ⟨A.BN i, 0, none⟩ (.int .i64 (min u (c + d)))) lab A n t { s with f := upd s.f i (leastL (s.K i) (s.h i) L (j + 1)) }) := by
          refine LN.as (hA.setFar hi (min u (c + d))) ?_
          show LS.mk (upd (upd s.f i _) i _) s.e s.h s.q s.K s.c = LS.mk (upd s.f i (min (leastL (s.K i) (s.h i) L j) (s.K i (atL L j).toNat + s.h i (atL L j).toNat))) s.e s.h s.q s.K s.c
          rw [show upd (upd s.f i (leastL (s.K i) (s.h i) L j)) i (min u (c + d)) = upd s.f i (min u (c + d)) from by funext z; unfold upd; split <;> rfl, hk, show ((k : Int)).toNat = k by omega, hcc, hd, hu]
        have HY : Hid (AF lab w lab (wr.setCell ⟨A.BN i, 0, none⟩ (.int .i64 (min u (c + d))))) := HFR.out.setCell (hA.ln i hi) (by simp) 0 _
        have HV : Hid (OwnV (wr.setCell ⟨A.BN i, 0, none⟩ (.int .i64 (min u (c + d)))) w1.heap.size (.slice (some ad) L.length cv) L.length (atL L)) := by
          have hlt1 := HLT.out
          exact HVR.out.same fun b hb _ => Below.heap_setCell _ _ _ _ (by show b ≠ A.BN i; omega)
        dsimp only at g4 g6
        rw [hcc] at g3 hc0 hc1
        rw [hd] at g6 hd0 hd1
        rw [e1] at g4
        clear hA hcc hd hu e1 hv1 hvr hk
        go_wp2_with fail
        refine wp_region_quiet_tail 26 (by kernel_rfl) (by kernel_rfl) ?_
        simp only [List.take_succ_cons, List.take_zero, List.drop_succ_cons, List.drop_zero]
        repeat (go_big_quiet_step (fail))
        refine wpQuiet_nil ?_
        go_wp2_with fail
        go_roundw
        case rel => exact ⟨j + 1, by omega, by go_num, HV.out.drewN 1, HX.out.drewN 1, HY.out.trans ⟨(Touch.refl _ _).drew, fun _ _ => rfl⟩⟩
        case measure => simp [intOf]; omega
      · have ej : j = L.length := by omega
        obtain ⟨g4, g5, -⟩ := hA.nodeCell hi
        have g7 := (hA.nodr i hi).frozen 1
        obtain ⟨u, hu⟩ : ∃ u, leastL (s.K i) (s.h i) L j = u := ⟨_, rfl⟩
        obtain ⟨e, he⟩ : ∃ e, s.e i = e := ⟨_, rfl⟩
        have e1 : upd s.f i (leastL (s.K i) (s.h i) L j) i = u := by rw [upd_same, hu]
        dsimp only at g4 g5
        rw [e1] at g4
        rw [he] at g5
        have HX : Hid (LN (wr.setCell ⟨A.BN i, 1, none⟩ (.int .i64 (min e u))) lab A n t (s.anew n t i)) := by
          refine LN.as (hA.setLeast hi (min e u)) ?_
          have hnf : s.newF n t i = u := by
            unfold LS.newF
            rw [HLE.out, ← ej, hu]
          unfold LS.anew
          rw [if_neg HIT.out, hnf, he]
          show LS.mk (upd s.f i (leastL (s.K i) (s.h i) L j)) _ _ _ _ _ = _
          rw [hu]
        have HY : Hid (AF lab w lab (wr.setCell ⟨A.BN i, 1, none⟩ (.int .i64 (min e u)))) := HFR.out.setCell (hA.ln i hi) (by simp) 1 _
        have d1 : decide (j < L.length) = false := decide_eq_false hlt
        have d2 : decide ((j : Int) < L.length) = false := decide_eq_false (by omega)
        clear hA hu he e1 ej
        go_wp2_with fail
        refine wp_region_quiet_tail 12 (by kernel_rfl) (by kernel_rfl) ?_
        simp only [List.take_succ_cons, List.take_zero, List.drop_succ_cons, List.drop_zero]
        repeat (go_big_quiet_step (fail))
        refine wpQuiet_nil ?_
        go_wp2_with fail
        go_end0
        exact ⟨rfl, HX.out.drewN 1, HY.out.trans ⟨(Touch.refl _ _).drew, fun _ _ => rfl⟩⟩

end Go.Proofs.Ytlemmphnmklbeaa

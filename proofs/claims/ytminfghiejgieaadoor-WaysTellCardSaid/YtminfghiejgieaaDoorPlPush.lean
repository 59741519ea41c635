/- container/heap's up, Push and Pop over spf's places: whatever their order. -/
import Derived.Test.YtminfghiejgieaaDoorPlHeap
namespace Go.Proofs.YtminfghiejgieaaDoor
open Go.RowKit
set_option linter.unusedVariables false

section
variable {n : Nat} {F G F' G' : Nat → Int}
theorem push_rem {d k : Int} (h : Same2 (n + 1) (upd F n d) (upd G n k) F' G') : QRem (plL (n + 1) F' G') (d, k.toNat) (plL n F G) where
  it := by
    obtain ⟨j, hj, e1, e2⟩ := h.2 n (by omega)
    rw [upd_same] at e1 e2
    exact plL_mem.2 ⟨j, hj, by rw [e1, e2]⟩
  sub x hx := by
    obtain ⟨i, hi, rfl⟩ := plL_mem.1 hx
    obtain ⟨j, hj, e1, e2⟩ := h.2 i (by omega)
    rw [upd_other _ _ (by omega)] at e1 e2
    exact plL_mem.2 ⟨j, hj, by rw [e1, e2]⟩
  or x hx := by
    obtain ⟨i, hi, rfl⟩ := plL_mem.1 hx
    obtain ⟨j, hj, e1, e2⟩ := h.1 i hi
    by_cases e : j = n
    · subst e
      rw [upd_same] at e1 e2
      left; rw [e1, e2]
    · rw [upd_other _ _ e] at e1 e2
      right
      exact plL_mem.2 ⟨j, by omega, by rw [e1, e2]⟩
  len := by rw [plL_len, plL_len]
theorem push_nodes {d k : Int} (h : Same2 (n + 1) (upd F n d) (upd G n k) F' G') (hk : 0 ≤ k) (hn : ∀ i, i < n → 0 ≤ G i) : ∀ i, i < n + 1 → 0 ≤ G' i := fun i hi => by
  obtain ⟨j, hj, -, e2⟩ := h.1 i hi
  rw [e2]
  by_cases e : j = n
  · subst e; rw [upd_same]; exact hk
  · rw [upd_other _ _ e]; exact hn j (by omega)
theorem pop_nodes (h : Same2 n (swapV F 0 n) (swapV G 0 n) F' G') (hn : ∀ i, i < n + 1 → 0 ≤ G i) : ∀ i, i < n → 0 ≤ G' i := fun i hi => by
  obtain ⟨j, hj, -, e2⟩ := h.1 i hi
  rw [e2, swapV_at]
  by_cases e : j = n
  · rw [if_pos e]; exact hn 0 (by omega)
  · rw [if_neg e]
    by_cases e' : j = 0
    · rw [if_pos e']; exact hn n (by omega)
    · rw [if_neg e']; exact hn j (by omega)
theorem pop_rem (h : Same2 n (swapV F 0 n) (swapV G 0 n) F' G') : QRem (plL (n + 1) F G) (F 0, (G 0).toNat) (plL n F' G') where
  it := plL_mem.2 ⟨0, by omega, rfl⟩
  sub x hx := by
    obtain ⟨i, hi, rfl⟩ := plL_mem.1 hx
    obtain ⟨j, hj, e1, e2⟩ := h.1 i hi
    rw [swapV_at, if_neg (by omega)] at e1 e2
    by_cases e : j = 0
    · rw [if_pos e] at e1 e2
      exact plL_mem.2 ⟨n, by omega, by rw [e1, e2]⟩
    · rw [if_neg e] at e1 e2
      exact plL_mem.2 ⟨j, by omega, by rw [e1, e2]⟩
  or x hx := by
    obtain ⟨i, hi, rfl⟩ := plL_mem.1 hx
    by_cases e : i = 0
    · subst e; exact .inl rfl
    · right
      by_cases e' : i = n
      · subst e'
        obtain ⟨j, hj, e1, e2⟩ := h.2 0 (by omega)
        rw [swapV_at, if_neg (by omega), if_pos rfl] at e1 e2
        exact plL_mem.2 ⟨j, hj, by rw [e1, e2]⟩
      · obtain ⟨j, hj, e1, e2⟩ := h.2 i (by omega)
        rw [swapV_at, if_neg e', if_neg e] at e1 e2
        exact plL_mem.2 ⟨j, hj, by rw [e1, e2]⟩
  len := by rw [plL_len, plL_len]
end

set_option maxRecDepth 100000 in
set_option maxHeartbeats 2000000 in
theorem plUp (p g n cap j0 : Nat) (x : Int) (hx : x = (j0 : Int)) (F G : Nat → Int) (w : World) (h : Pl w p g n cap F G) (hn : n ≤ 100000) (hj0 : j0 < n) :
    Calls Tryd.prog 77 #[plI p, .int .i64 x] w fun e w' => e = .returned (.tuple #[]) ∧ ∃ F' G', Pl w' p g n cap F' G' ∧ Same2 n F G F' G' ∧ Touch (plS p g) w w' := by
  subst hx
  have H0 : Hid (∃ F' G', Pl w p g n cap F' G' ∧ Same2 n F G F' G' ∧ Touch (plS p g) w w) := ⟨F, G, h, Same2.refl _ _ _, Touch.refl _ _⟩
  clear h
  go_enter Tryd.func77, Tryd.ntmps77
  go_wp2_with fail
  go_loopw [1] (fun v wr => ∃ j : Nat, j < n ∧ v = .int .i64 j ∧ ∃ F' G', Pl wr p g n cap F' G' ∧ Same2 n F G F' G' ∧ Touch (plS p g) w wr) (fun v _ => (intOf v).toNat)
  case atStart => exact ⟨j0, hj0, rfl, H0.out⟩
  case round =>
    obtain ⟨j, hj, rfl, F', G', h', hs, ht⟩ := hrel
    clear H0
    have H := Lib.hid h'
    have HS := Lib.hid hs
    have HT := Lib.hid ht
    clear h' hs ht
    have n00 := plNil_less ⟨p, 0, none⟩ wr
    have m00 := plMeth_less ⟨p, 0, none⟩ _ _ _ wr H.out.head
    have n1 := fun k => plNil_swap ⟨p, 0, none⟩ (wr.drewN k)
    have m1 := fun k => plMeth_swap ⟨p, 0, none⟩ _ _ _ (wr.drewN k) (H.out.drewN k).head
    cases j with
    | zero =>
      go_wp2_with fail
      go_end0
      exact ⟨rfl, F', G', H.out, HS.out, HT.out⟩
    | succ j =>
      cases hA : decide (F' (j + 1) < F' (j / 2))
      · have HA := Lib.hid hA
        clear hA
        have he : ((j : Int) / 2 == (j : Int) + 1) = false := by simp; omega
        go_wp2_with fail
        have hcall := plLess p g n cap (j + 1) (j / 2) ((j : Int) + 1) ((j : Int) / 2) (by omega) (by omega) F' G' _ H.out (by omega) (by omega)
        refine hcall.mono ?_
        clear hcall
        rintro e w1 ⟨rfl, kx, rfl⟩
        rw [HA.out]
        go_wp2_with fail
        go_end0
        exact ⟨rfl, F', G', H.out.drewN _, HS.out, HT.out.drewN _⟩
      · have HA := Lib.hid hA
        clear hA
        have he : ((j : Int) / 2 == (j : Int) + 1) = false := by simp; omega
        go_wp2_with fail
        have hcall := plLess p g n cap (j + 1) (j / 2) ((j : Int) + 1) ((j : Int) / 2) (by omega) (by omega) F' G' _ H.out (by omega) (by omega)
        refine hcall.mono ?_
        clear hcall
        rintro e w1 ⟨rfl, kx, rfl⟩
        rw [HA.out]
        go_wp2_with fail
        have hcall := plSwap p g n cap (j / 2) (j + 1) ((j : Int) / 2) ((j : Int) + 1) (by omega) (by omega) F' G' _ (H.out.drewN kx) (by omega) (by omega) (by omega)
        refine hcall.mono ?_
        clear hcall
        rintro e w3 ⟨rfl, h3, t3⟩
        have H3 := Lib.hid h3
        have T3 := Lib.hid (Touch.trans (HT.out.drewN _) t3)
        clear h3 t3
        go_wp2_with fail
        go_roundw
        case rel => exact ⟨j / 2, by omega, by first | rfl | (congr 1; omega), _, _, H3.out, HS.out.trans (Same2.swap F' G' (by omega) (by omega)), T3.out⟩
        case measure => simp [intOf]; omega

set_option maxRecDepth 100000 in
set_option maxHeartbeats 2000000 in
theorem heapPush (p g n cap : Nat) (d k : Int) (F G : Nat → Int) (w : World) (h : Pl w p g n cap F G) (hn : n ≤ 1000) :
    Calls Tryd.prog 75 #[plI p, .iface 144 (.agg #[.int .i64 d, .int .i64 k])] w fun e w' => e = .returned (.tuple #[]) ∧ ∃ g' cap' F' G', Pl w' p g' (n + 1) cap' F' G' ∧ QRem (plL (n + 1) F' G') (d, k.toNat) (plL n F G) ∧ (0 ≤ k → (∀ i, i < n → 0 ≤ G i) → ∀ i, i < n + 1 → 0 ≤ G' i) ∧ (g' = g ∨ w.heap.size ≤ g') ∧ Touch (plS p g) w w' := by
  have H := Lib.hid h
  clear h
  have n00 := plNil_push ⟨p, 0, none⟩ w
  have m00 := plMeth_push ⟨p, 0, none⟩ w
  go_enter Tryd.func75, Tryd.ntmps75
  go_wp2_with fail
  refine (plPush p g n cap d k F G w H.out (by omega)).mono ?_
  rintro e w1 ⟨rfl, g1, cap1, h1, hg1, t1⟩
  clear n00 m00
  have n01 := plNil_len ⟨p, 0, none⟩ w1
  have m01 := plMeth_len ⟨p, 0, none⟩ _ _ _ w1 h1.head
  have H1 := Lib.hid h1
  have T1 := Lib.hid t1
  have HG := Lib.hid hg1
  clear h1 t1 hg1
  go_wp2_with fail
  refine (plLen _ _ _ _).mono ?_
  rintro e w2 ⟨rfl, rfl⟩
  clear n01 m01
  go_wp2_with fail
  have hcall := plUp p g1 (n + 1) cap1 n n rfl _ _ w1 H1.out (by omega) (by omega)
  refine hcall.mono ?_
  clear hcall
  rintro e w2 ⟨rfl, F', G', h2, s2, t2⟩
  have H2 := Lib.hid h2
  have HS := Lib.hid s2
  have T2 := Lib.hid t2
  clear h2 s2 t2
  go_wp2_with fail
  go_end0
  refine ⟨rfl, g1, cap1, F', G', H2.out, push_rem HS.out, fun hk hn => push_nodes HS.out hk hn, HG.out, T1.out.trans' T2.out ?_⟩
  rintro i (rfl | rfl)
  · exact .inl (.inl rfl)
  · rcases HG.out with e | e
    · exact .inl (.inr e)
    · exact .inr e

set_option maxRecDepth 100000 in
set_option maxHeartbeats 2000000 in
theorem heapPop (p g n cap : Nat) (F G : Nat → Int) (w : World) (h : Pl w p g (n + 1) cap F G) (hn : n ≤ 1000) :
    Calls Tryd.prog 74 #[plI p] w fun e w' => e = .returned (.iface 144 (.agg #[.int .i64 (F 0), .int .i64 (G 0)])) ∧ ∃ F' G', Pl w' p g n cap F' G' ∧ QRem (plL (n + 1) F G) (F 0, (G 0).toNat) (plL n F' G') ∧ ((∀ i, i < n + 1 → 0 ≤ G i) → ∀ i, i < n → 0 ≤ G' i) ∧ Touch (plS p g) w w' := by
  have H := Lib.hid h
  have n00 := plNil_len ⟨p, 0, none⟩ w
  have m00 := plMeth_len ⟨p, 0, none⟩ _ _ _ w h.head
  have n01 := plNil_swap ⟨p, 0, none⟩ w
  have m01 := plMeth_swap ⟨p, 0, none⟩ _ _ _ w h.head
  clear h
  have hswap : Hid (Calls Tryd.prog 116 #[.slice (some ⟨g, 0, none⟩) (n + 1) cap, .int .i64 0, .int .i64 n] w fun e w' => e = .returned (.tuple #[]) ∧ Pl w' p g (n + 1) cap (swapV F 0 n) (swapV G 0 n) ∧ Touch (plS p g) w w') := by
    show Calls _ _ _ _ _
    by_cases e : n = 0
    · subst e
      exact plSwap_same p g 1 cap 0 0 0 rfl rfl F G w H.out (by omega)
    · exact plSwap p g (n + 1) cap 0 n 0 n rfl rfl F G w H.out (by omega) (by omega) (by omega)
  go_enter Tryd.func74, Tryd.ntmps74
  go_wp2_with fail
  refine (plLen _ _ _ _).mono ?_
  rintro e w2 ⟨rfl, rfl⟩
  go_wp2_with fail
  refine hswap.out.mono ?_
  rintro e w1 ⟨rfl, h1, t1⟩
  clear n00 m00 n01 m01
  have H1 := Lib.hid h1
  have T1 := Lib.hid t1
  clear h1 t1
  go_wp2_with fail
  have hcall := plDown p g (n + 1) cap 0 n 0 n rfl rfl _ _ w1 H1.out (by omega) (by omega) (by omega)
  refine hcall.mono ?_
  clear hcall
  rintro e w2 ⟨b, F', G', rfl, h2, s2, k2, t2⟩
  have n00 := plNil_pop ⟨p, 0, none⟩ w2
  have m00 := plMeth_pop ⟨p, 0, none⟩ w2
  have H2 := Lib.hid h2
  have HS := Lib.hid s2
  have HK := Lib.hid k2
  have T2 := Lib.hid (Touch.trans T1.out t2)
  clear h2 s2 k2 t2
  go_wp2_with fail
  refine (plPop p g n cap F' G' w2 H2.out (by omega)).mono ?_
  rintro e w3 ⟨rfl, h3, t3⟩
  have H3 := Lib.hid h3
  have T3 := Lib.hid (Touch.trans T2.out t3)
  clear h3 t3
  go_wp2_with fail
  go_ret
  refine ⟨?_, F', G', H3.out, pop_rem HS.out, fun hn => pop_nodes HS.out hn, T3.out⟩
  obtain ⟨e1, e2⟩ := HK.out n (Nat.le_refl _)
  rw [swapV_at, if_pos rfl] at e1 e2
  rw [e1, e2]
  rfl

end Go.Proofs.YtminfghiejgieaaDoor

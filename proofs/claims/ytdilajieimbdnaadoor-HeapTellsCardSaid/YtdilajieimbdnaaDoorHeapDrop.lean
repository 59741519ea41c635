/- The walks of package heap's Key and Drop. -/
import Derived.Test.YtdilajieimbdnaaDoorHeapNew
namespace Go.Proofs.YtdilajieimbdnaaDoor
open Go.RowKit
set_option linter.unusedVariables false

theorem heapKey_range (h N m : Nat) (S : Nat → Prop) (has : Nat → Bool) (key : Nat → Int) (x : Int) (w : World) (hp : Hp w h N m S has key) (hx : x < 0 ∨ (N : Int) ≤ x) :
    Calls Tryd.prog 18 #[.pointer (some ⟨h, 0, none⟩), .int .i64 x] w fun e w' => e = .returned (.tuple #[.int .i64 0, errNo 1]) ∧ w = w' := by
  obtain ⟨ga, gk, tv, T, at0, ks, hm, hb, ho, hh, hk, hs⟩ := hp
  have c1 := hm.blk.cell 1
  simp at c1
  clear hm hb ho hh hk hs
  rcases hx with hx | hx
  · go_enter Tryd.func18, Tryd.ntmps18
    go_wp2
    go_ret2
    exact ⟨rfl, rfl⟩
  · have h0 : ¬ x < 0 := by omega
    go_enter Tryd.func18, Tryd.ntmps18
    go_wp2
    go_ret2
    exact ⟨rfl, rfl⟩

theorem heapKey_none (h N m i : Nat) (S : Nat → Prop) (has : Nat → Bool) (key : Nat → Int) (x : Int) (hx : x = (i : Int)) (w : World) (hp : Hp w h N m S has key) (hi : i < N) (hn : has i = false) :
    Calls Tryd.prog 18 #[.pointer (some ⟨h, 0, none⟩), .int .i64 x] w fun e w' => e = .returned (.tuple #[.int .i64 0, errNo 2]) ∧ w = w' := by
  subst hx
  obtain ⟨ga, gk, tv, T, at0, ks, hm, hb, ho, hh, hk, hs⟩ := hp
  have c1 := hm.blk.cell 1
  simp at c1
  have ca := hm.ra.cell hi
  have h0 : at0 i < 0 := by
    have := hh i hi
    rw [hn] at this
    have := of_decide_eq_false this.symm
    omega
  have hi' : (i : Int) < N := by omega
  clear hm hb ho hh hk hs hn
  go_enter Tryd.func18, Tryd.ntmps18
  go_wp2
  go_ret2
  exact ⟨rfl, rfl⟩

theorem heapKey_some (h N m i : Nat) (S : Nat → Prop) (has : Nat → Bool) (key : Nat → Int) (x : Int) (hx : x = (i : Int)) (w : World) (hp : Hp w h N m S has key) (hi : i < N) (hn : has i = true) :
    Calls Tryd.prog 18 #[.pointer (some ⟨h, 0, none⟩), .int .i64 x] w fun e w' => e = .returned (.tuple #[.int .i64 (key i), .nilIface]) ∧ w = w' := by
  subst hx
  obtain ⟨ga, gk, tv, T, at0, ks, hm, hb, ho, hh, hk, hs⟩ := hp
  have c1 := hm.blk.cell 1
  have c2 := hm.blk.cell 2
  simp at c1 c2
  have ca := hm.ra.cell hi
  have ck := hm.rk.cell hi
  rw [hk i hi hn] at ck
  have h0 : 0 ≤ at0 i := by
    have := hh i hi
    rw [hn] at this
    exact of_decide_eq_true this.symm
  have hi' : (i : Int) < N := by omega
  clear hm hb ho hh hk hs hn
  go_enter Tryd.func18, Tryd.ntmps18
  go_wp2
  go_ret2
  exact ⟨rfl, rfl⟩

theorem heapDrop_bad (h N m : Nat) (S : Nat → Prop) (has : Nat → Bool) (key : Nat → Int) (x n : Int) (w : World)
    (hc : Calls Tryd.prog 18 #[.pointer (some ⟨h, 0, none⟩), .int .i64 x] w fun e w' => e = .returned (.tuple #[.int .i64 0, errNo n]) ∧ w = w') :
    Calls Tryd.prog 19 #[.pointer (some ⟨h, 0, none⟩), .int .i64 x] w fun e w' => e = .returned (errNo n) ∧ w = w' := by
  have HC := Lib.hid hc
  clear hc
  go_enter Tryd.func19, Tryd.ntmps19
  go_wp2_with fail
  refine HC.out.mono ?_
  rintro e w' ⟨rfl, rfl⟩
  go_wp2_with fail
  go_ret
  exact ⟨rfl, rfl⟩

theorem HMem.shrink {w : World} {h ga gk N gt m cap : Nat} {T : Nat → Nat} {at_ key : Nat → Int} (hm : HMem w h ga gk N (.slice (some ⟨gt, 0, none⟩) (m + 1) cap) (m + 1) T at_ key) :
    HMem (w.setCell ⟨h, 0, none⟩ (.slice (some ⟨gt, 0, none⟩) m cap)) h ga gk N (.slice (some ⟨gt, 0, none⟩) m cap) m T at_ key := by
  refine ⟨by simpa using hm.blk.set_ 0 (.slice (some ⟨gt, 0, none⟩) m cap), hm.ra.setOther (fun e => hm.nh.1 e.symm) _, hm.rk.setOther (fun e => hm.nh.2.1 e.symm) _, ?_, hm.nak, hm.nta, hm.ntk, hm.nh, hm.size⟩
  have hk : w.grownBy (w.setCell ⟨h, 0, none⟩ (.slice (some ⟨gt, 0, none⟩) m cap)) (some h) := ⟨rfl, rfl, rfl, by simp [World.setCell], fun k hk hne => Below.heap_setCell _ _ _ _ (fun e => hne (by rw [e]))⟩
  have ho := hm.own.kept hk (.inr hm.nh.2.2)
  refine ⟨by simp, ?_⟩
  rcases ho.2 with ⟨e, _⟩ | ⟨g, c, cur, e, hb, hg, hnc, hcm, hcs, htake⟩
  · simp at e
  · simp only [Value.slice.injEq, Option.some.injEq, Addr.mk.injEq, and_true, true_and] at e
    obtain ⟨rfl, rfl⟩ := e
    refine .inr ⟨gt, cap, cur, rfl, hb, hg, by omega, hcm, hcs, ?_⟩
    have e2 : cur.toList.take (m * 1) = (cur.toList.take ((m + 1) * 1)).take (m * 1) := by rw [List.take_take]; congr 1; omega
    rw [e2, htake, ← List.map_take, List.take_range]
    congr 2
    omega

theorem HMem.of_heap {w w' : World} {h ga gk N m : Nat} {tv : Value} {T : Nat → Nat} {at_ key : Nat → Int} (hm : HMem w h ga gk N tv m T at_ key) (e : w'.heap = w.heap) : HMem w' h ga gk N tv m T at_ key := by
  refine ⟨?_, hm.ra.of_block (by rw [e]), hm.rk.of_block (by rw [e]), ?_, hm.nak, hm.nta, hm.ntk, hm.nh, hm.size⟩
  · unfold Blk; rw [e]; exact hm.blk
  · have := hm.own
    unfold World.ownsRow at this ⊢
    rw [e]
    exact this

theorem HMem.cap {w : World} {h ga gk N gt m cap : Nat} {T : Nat → Nat} {at_ key : Nat → Int} (hm : HMem w h ga gk N (.slice (some ⟨gt, 0, none⟩) m cap) m T at_ key) : m ≤ cap := by
  rcases hm.own.2 with ⟨e, _⟩ | ⟨g, c, cur, e, hb, hg, hnc, _⟩
  · simp at e
  · simp only [Value.slice.injEq, Option.some.injEq, Addr.mk.injEq, and_true, true_and] at e
    omega

set_option maxRecDepth 100000 in
set_option maxHeartbeats 1000000 in
theorem heapDrop_core (h ga gk N m i p gt cap : Nat) (x : Int) (hx : x = (i : Int)) (T : Nat → Nat) (at0 ks : Nat → Int) (kv : Int) (w : World) (hm : HMem w h ga gk N (.slice (some ⟨gt, 0, none⟩) (m + 1) cap) (m + 1) T at0 ks) (hb : Bij N (m + 1) T at0) (ho : Ordered ks (m + 1) T)
    (hi : i < N) (hp : p < m + 1) (hat : at0 i = p) (hT : T p = i)
    (hc : Calls Tryd.prog 18 #[.pointer (some ⟨h, 0, none⟩), .int .i64 x] w fun e w' => e = .returned (.tuple #[.int .i64 kv, .nilIface]) ∧ w = w') :
    Calls Tryd.prog 19 #[.pointer (some ⟨h, 0, none⟩), .int .i64 x] w fun e w' => e = .returned .nilIface ∧
      ∃ T' at', HMem w' h ga gk N (.slice (some ⟨gt, 0, none⟩) m cap) m T' at' ks ∧ Bij N m T' at' ∧ Ordered ks m T' ∧ (∀ j, j < N → (0 ≤ at' j ↔ (j ≠ i ∧ 0 ≤ at0 j))) ∧ Touch (hS h ga gk (.slice (some ⟨gt, 0, none⟩) (m + 1) cap)) w w' := by
  subst hx
  have HC := Lib.hid hc
  clear hc
  have c0 := hm.blk.cell 0
  have c1 := hm.blk.cell 1
  have f0 := hm.blk.frozen 0
  simp at c0 c1
  have ca := hm.ra.cell hi
  rw [hat] at ca
  have fa := hm.ra.frozen i
  have ct := hm.tree.cell (show m < m + 1 by omega)
  have n2 := hm.nh.1
  have hi' : (i : Int) < N := by omega
  have hN := hm.size
  have hm5 : m + 1 ≤ 5000 := Nat.le_trans hb.le hm.size
  have hcap := hm.cap
  have n3 : gt ≠ h := fun e => hm.nh.2.2 (by simp [Value.ownBlock, e])
  have HM := Lib.hid ((hm.shrink.setA i (-1)).drew)
  have HA := Lib.hid hat
  have HTT := Lib.hid hT
  clear hm hat hT
  go_enter Tryd.func19, Tryd.ntmps19
  go_wp2_with fail
  refine HC.out.mono ?_
  rintro e w' ⟨rfl, rfl⟩
  go_wp2_with fail
  go_quiet (fail)
  go_wp2_with fail
  go_region
  by_cases hlt : p < m
  · have hlt' : (p : Int) < m := by omega
    go_wp2_with fail
    have hcall := heapSet h ga gk N m (T m) p gt cap _ rfl T (upd at0 i (-1)) ks (((w.drewN (nq + 1)).setCell ⟨h, 0, none⟩ (.slice (some ⟨gt, 0, none⟩) m cap)).setCell ⟨ga, i, none⟩ (.int .i64 (-1))) (HM.out.of_heap rfl) (hb.lt _ (by omega)) hlt
    refine hcall.mono ?_
    clear hcall
    rintro e w2 ⟨rfl, hm2, ht2⟩
    have HT2 : Hid (Touch (hS h ga gk (.slice (some ⟨gt, 0, none⟩) (m + 1) cap)) w w2) := by
      refine Touch.trans (a := ((w.setCell ⟨h, 0, none⟩ (.slice (some ⟨gt, 0, none⟩) m cap)).setCell ⟨ga, i, none⟩ (.int .i64 (-1)))) ?_ (ht2.mono' rfl rfl rfl rfl fun b hb => hb)
      exact (((Touch.refl _ _).setCell (.inl (.inl rfl)) _).setCell (.inl (.inr (.inl rfl))) _)
    have HB2 : Hid (Bij N m (upd T p (T m)) (upd (upd at0 i (-1)) (T m) p)) := by
      have := hb.drop_mid hlt
      rwa [HTT.out] at this
    have HM2 := Lib.hid hm2
    clear hm2 ht2 c0 c1 ca fa f0 ct
    go_wp2_with fail
    have hcall := heapUp h ga gk N m p gt cap _ rfl _ _ _ _ HM2.out HB2.out hlt (Hole.drop_mid ho hlt (T m))
    refine hcall.mono ?_
    clear hcall
    rintro e w3 ⟨rfl, p3, T3, at3, hm3, hb3, hp3, hTp3, hs3, hat3, ht3⟩
    have c1b := hm3.blk.cell 1
    simp at c1b
    have hk := hb.lt m (by omega)
    have ca2 := hm3.ra.cell hk
    have e2 : at3 (T m) = p3 := by rw [← hb3.pos p3 hp3, hTp3, upd_same]
    rw [e2] at ca2
    have HM3 := Lib.hid hm3
    have HT3 := Lib.hid (HT2.out.trans ht3)
    have HA3 := Lib.hid hat3
    have hk' : ((T m : Nat) : Int) < N := by omega
    clear hm3 ht3 e2 hTp3 hat3
    go_wp2_with fail
    have hcall := heapDown h ga gk N m p3 gt cap _ rfl T3 at3 _ _ HM3.out hb3 hp3 hs3
    refine hcall.mono ?_
    clear hcall
    rintro e w4 ⟨rfl, T4, at4, hm4, hb4, ho4, hat4, ht4⟩
    have HM4 := Lib.hid hm4
    have HT4 := Lib.hid (HT3.out.trans ht4)
    have HA4 := Lib.hid hat4
    clear hm4 ht4 c1b ca2 hat4
    go_wp2_with fail
    go_ret
    refine ⟨rfl, T4, at4, HM4.out, hb4, ho4, fun j hj => ?_, HT4.out⟩
    rw [HA4.out j hj, HA3.out j hj]
    have hne : T m ≠ i := fun e => by
      have := hb.inj (show m < m + 1 by omega) hp (by rw [HTT.out, e])
      omega
    by_cases e1 : j = T m
    · subst e1
      rw [upd_same, hb.pos m (by omega)]
      simp [hne]
    · rw [upd_other _ _ e1]
      by_cases e2 : j = i
      · subst e2; rw [upd_same]; simp
      · rw [upd_other _ _ e2]; simp [e2]
  · have hpm : p = m := by omega
    subst hpm
    have hlt' : ¬ (p : Int) < p := by omega
    go_wp2_with fail
    go_ret
    refine ⟨rfl, T, upd at0 i (-1), HM.out.of_heap rfl, ?_, ho.less, fun j hj => ?_, ?_⟩
    · have := hb.drop_last
      rwa [HTT.out] at this
    · by_cases e2 : j = i
      · subst e2; rw [upd_same]; simp
      · rw [upd_other _ _ e2]; simp [e2]
    · exact (((Touch.refl _ _).setCell (p := ⟨h, 0, none⟩) (.inl (.inl rfl)) _).setCell (p := ⟨ga, i, none⟩) (.inl (.inr (.inl rfl))) _).alike rfl rfl rfl rfl

/-- Drop. -/
theorem heapDrop (h N m i : Nat) (S : Nat → Prop) (has : Nat → Bool) (key : Nat → Int) (x : Int) (hx : x = (i : Int)) (w : World) (hp : Hp w h N m S has key) (hi : i < N) (hn : has i = true) :
    Calls Tryd.prog 19 #[.pointer (some ⟨h, 0, none⟩), .int .i64 x] w fun e w' => e = .returned .nilIface ∧
      HpStep w w' h N (m - 1) S (upd has i false) key := by
  have hkey := heapKey_some h N m i S has key x hx w hp hi hn
  obtain ⟨ga, gk, tv, T, at0, ks, hm, hb, ho, hh, hk, hs⟩ := hp
  have h0 : 0 ≤ at0 i := by
    have := hh i hi
    rw [hn] at this
    exact of_decide_eq_true this.symm
  obtain ⟨p, hp, e1, e2⟩ := hb.inv i hi h0
  obtain ⟨gt, cap, htv, -, -⟩ := hm.own.form (by omega)
  subst htv
  obtain ⟨m, rfl⟩ : ∃ m', m = m' + 1 := ⟨m - 1, by omega⟩
  refine (heapDrop_core h ga gk N m i p gt cap x hx T at0 ks _ w hm hb ho hi hp e1 e2 hkey).mono ?_
  rintro e w' ⟨rfl, T', at', hm', hb', ho', hat', ht'⟩
  refine ⟨rfl, hS h ga gk (.slice (some ⟨gt, 0, none⟩) m cap), ⟨ga, gk, _, T', at', ks, hm', hb', ho', fun j hj => ?_, fun j hj hhj => ?_, fun _ hx => hx⟩, ht'.mono hs, fun b hb => .inl (hs b hb)⟩
  · by_cases e : j = i
    · subst e; rw [upd_same]; exact (decide_eq_false (fun h => ((hat' j hj).1 h).1 rfl)).symm
    · rw [upd_other _ _ e, hh j hj, Bool.eq_iff_iff]
      simp [hat' j hj, e]
  · by_cases e : j = i
    · subst e; rw [upd_same] at hhj; cases hhj
    · rw [upd_other _ _ e] at hhj
      exact hk j hj hhj

end Go.Proofs.YtdilajieimbdnaaDoor

/- The walks of package heap's operations. -/
import Derived.Test.YtdilajieimbdnaaDoorHeapDown
import Derived.Maps.AppendAt
namespace Go.Proofs.YtdilajieimbdnaaDoor
open Go.RowKit
set_option linter.unusedVariables false

/-- The heap at block h: N places, m of which have a key; its blocks are among S. -/
def Hp (w : World) (h N m : Nat) (S : Nat → Prop) (has : Nat → Bool) (key : Nat → Int) : Prop :=
  ∃ ga gk tv T at_ ks, HMem w h ga gk N tv m T at_ ks ∧ Bij N m T at_ ∧ Ordered ks m T ∧ (∀ i, i < N → has i = decide (0 ≤ at_ i)) ∧ (∀ i, i < N → has i = true → ks i = key i) ∧ (∀ k, hS h ga gk tv k → S k)

theorem HMem.touch {S : Nat → Prop} {w w' : World} {h ga gk N m : Nat} {tv : Value} {T : Nat → Nat} {at_ key : Nat → Int} (hm : HMem w h ga gk N tv m T at_ key) (ht : Touch S w w') (hS' : ∀ k, hS h ga gk tv k → ¬ S k) : HMem w' h ga gk N tv m T at_ key := by
  refine ⟨hm.blk.touch ht (hS' _ (.inl rfl)), hm.ra.touch ht (hS' _ (.inr (.inl rfl))), hm.rk.touch ht (hS' _ (.inr (.inr (.inl rfl)))), ?_, hm.nak, hm.nta, hm.ntk, hm.nh, hm.size⟩
  refine ⟨hm.own.1, ?_⟩
  rcases hm.own.2 with h' | ⟨g, cap, cur, hv, hb, hg, r⟩
  · exact .inl h'
  · refine .inr ⟨g, cap, cur, hv, hb, ?_, r⟩
    rw [ht.block g (Array.getElem?_eq_some_iff.1 hg).1 (hS' _ (.inr (.inr (.inr (by rw [hv]; rfl)))))]
    exact hg

theorem Hp.touch {S S' : Nat → Prop} {w w' : World} {h N m : Nat} {has : Nat → Bool} {key : Nat → Int} (hp : Hp w h N m S has key) (ht : Touch S' w w') (hd : ∀ k, S k → ¬ S' k) : Hp w' h N m S has key := by
  obtain ⟨ga, gk, tv, T, at_, ks, hm, r1, r2, r3, r4, r5⟩ := hp
  exact ⟨ga, gk, tv, T, at_, ks, hm.touch ht fun k hk => hd k (r5 k hk), r1, r2, r3, r4, r5⟩

/-- A put: what the closing step says. -/
theorem Hp.put {w : World} {h ga gk N m i : Nat} {tv : Value} {T : Nat → Nat} {at_ at0 ks key : Nat → Int} {has : Nat → Bool} {k : Int} (hm : HMem w h ga gk N tv m T at_ (upd ks i k)) (hb : Bij N m T at_) (ho : Ordered (upd ks i k) m T)
    (hat : ∀ j, j < N → (0 ≤ at_ j ↔ (j = i ∨ 0 ≤ at0 j))) (hh : ∀ i, i < N → has i = decide (0 ≤ at0 i)) (hk : ∀ i, i < N → has i = true → ks i = key i) :
    Hp w h N m (hS h ga gk tv) (upd has i true) (upd key i k) := by
  refine ⟨ga, gk, tv, T, at_, _, hm, hb, ho, fun j hj => ?_, fun j hj hhj => ?_, fun _ hx => hx⟩
  · by_cases e : j = i
    · subst e; rw [upd_same]; exact (decide_eq_true ((hat j hj).2 (.inl rfl))).symm
    · rw [upd_other _ _ e, hh j hj, Bool.eq_iff_iff]
      simp [hat j hj, e]
  · by_cases e : j = i
    · subst e; rw [upd_same, upd_same]
    · rw [upd_other _ _ e] at hhj
      rw [upd_other _ _ e, upd_other _ _ e]
      exact hk j hj hhj

/-- What put and drop leave of a heap: it, and what it may have turned. -/
def HpStep (w w' : World) (h N m : Nat) (S : Nat → Prop) (has : Nat → Bool) (key : Nat → Int) : Prop :=
  ∃ S', Hp w' h N m S' has key ∧ Touch S w w' ∧ ∀ b, S' b → S b ∨ w.heap.size ≤ b

set_option maxRecDepth 100000 in
set_option maxHeartbeats 1000000 in
theorem heapPut_old (h ga gk N m i p gt cap : Nat) (x k : Int) (hx : x = (i : Int)) (T : Nat → Nat) (at0 ks : Nat → Int) (w : World) (hm : HMem w h ga gk N (.slice (some ⟨gt, 0, none⟩) m cap) m T at0 ks) (hb : Bij N m T at0) (ho : Ordered ks m T)
    (hi : i < N) (hp : p < m) (hat : at0 i = p) (hT : T p = i) :
    Calls Tryd.prog 20 #[.pointer (some ⟨h, 0, none⟩), .int .i64 x, .int .i64 k] w fun e w' => e = .returned .nilIface ∧
      ∃ T' at', HMem w' h ga gk N (.slice (some ⟨gt, 0, none⟩) m cap) m T' at' (upd ks i k) ∧ Bij N m T' at' ∧ Ordered (upd ks i k) m T' ∧ (∀ j, j < N → (0 ≤ at' j ↔ (j = i ∨ 0 ≤ at0 j))) ∧ Touch (hS h ga gk (.slice (some ⟨gt, 0, none⟩) m cap)) w w' := by
  subst hx
  have c1 := hm.blk.cell 1
  have c2 := hm.blk.cell 2
  simp at c1 c2
  have ca := hm.ra.cell hi
  rw [hat] at ca
  have ck := hm.rk.cell hi
  have fk := hm.rk.frozen i
  have n1 := hm.nak
  have n2 := hm.nh.1
  have n3 := hm.nh.2.1
  have hi' : (i : Int) < N := by omega
  have hN := hm.size
  have hm5 : m ≤ 5000 := Nat.le_trans hb.le hm.size
  have HM := Lib.hid (hm.setK i k)
  have HT : Hid (Touch (hS h ga gk (.slice (some ⟨gt, 0, none⟩) m cap)) w (w.setCell ⟨gk, i, none⟩ (.int .i64 k))) := (Touch.refl _ _).setCell (.inl (by simp [hS])) _
  have HO : Hid (Hole (upd ks i k) m T p) := by
    have := Hole.put_old hb ho hp k
    rwa [hT] at this
  have HA := Lib.hid hat
  clear hm hat
  go_enter Tryd.func20, Tryd.ntmps20
  go_wp2_with fail
  have hcall := heapUp h ga gk N m p gt cap _ rfl T at0 _ _ HM.out hb hp HO.out
  refine hcall.mono ?_
  clear hcall
  rintro e w2 ⟨rfl, p2, T2, at2, hm2, hb2, hp2, hTp2, hs2, hat2, ht2⟩
  have c1b := hm2.blk.cell 1
  simp at c1b
  have ca2 := hm2.ra.cell hi
  have e2 : at2 i = p2 := by rw [← hb2.pos p2 hp2, hTp2, hT]
  rw [e2] at ca2
  have HM2 := Lib.hid hm2
  have HT2 := Lib.hid (HT.out.trans ht2)
  clear hm2 ht2 e2 hTp2 c1 c2 ca ck fk
  go_wp2_with fail
  have hcall := heapDown h ga gk N m p2 gt cap _ rfl T2 at2 _ _ HM2.out hb2 hp2 hs2
  refine hcall.mono ?_
  clear hcall
  rintro e w3 ⟨rfl, T3, at3, hm3, hb3, ho3, hat3, ht3⟩
  have HM3 := Lib.hid hm3
  have HT3 := Lib.hid (HT2.out.trans ht3)
  clear hm3 ht3 c1b ca2
  go_wp2_with fail
  go_ret
  refine ⟨rfl, T3, at3, HM3.out, hb3, ho3, fun j hj => ?_, HT3.out⟩
  rw [hat3 j hj, hat2 j hj]
  refine ⟨.inr, fun h => ?_⟩
  rcases h with e | e
  · rw [e, HA.out]; omega
  · exact e

theorem infoInt : (Tryd.prog.info? 3).map (fun i => (i.zero, i.size, i.bytes)) = some (some (.int .i64 0), 1, 8) := by kernel_rfl

/-- The heap's fields behind an append onto its tree, when the new slice has been stored. -/
theorem HMem.grown {w w1 : World} {h ga gk N m g' cap' : Nat} {tv : Value} {T : Nat → Nat} {at_ ks : Nat → Int} (i : Nat) (hm : HMem w h ga gk N tv m T at_ ks)
    (hown : w1.ownsRow 0 3 1 (.slice (some ⟨g', 0, none⟩) (m + 1) cap') (m + 1) (((List.range m).map fun p => Value.int .i64 (T p)) ++ [.int .i64 i])) (hg : w.grownBy w1 tv.ownBlock)
    (hat : tv.ownBlock = some g' ∨ w.heap.size ≤ g') :
    HMem (w1.setCell ⟨h, 0, none⟩ (.slice (some ⟨g', 0, none⟩) (m + 1) cap')) h ga gk N (.slice (some ⟨g', 0, none⟩) (m + 1) cap') (m + 1) (upd T m i) at_ ks := by
  have l0 := hm.blk.lt
  have l1 := hm.ra.lt
  have l2 := hm.rk.lt
  have d0 : g' ≠ h := by
    rcases hat with e | e
    · intro e'; exact hm.nh.2.2 (by rw [e, e'])
    · omega
  have d1 : g' ≠ ga := by
    rcases hat with e | e
    · intro e'; exact hm.nta (by rw [e, e'])
    · omega
  have d2 : g' ≠ gk := by
    rcases hat with e | e
    · intro e'; exact hm.ntk (by rw [e, e'])
    · omega
  have hb := hm.blk.grown hg (fun e => hm.nh.2.2 e.symm)
  refine ⟨?_, ?_, ?_, ?_, hm.nak, ?_, ?_, ⟨hm.nh.1, hm.nh.2.1, ?_⟩, hm.size⟩
  · have := hb.set_ 0 (.slice (some ⟨g', 0, none⟩) (m + 1) cap')
    simpa using this
  · exact (hm.ra.of_block (hg.block _ l1 (fun e => hm.nta e.symm))).setOther (fun e => hm.nh.1 e.symm) _
  · exact (hm.rk.of_block (hg.block _ l2 (fun e => hm.ntk e.symm))).setOther (fun e => hm.nh.2.1 e.symm) _
  · have e : ((List.range m).map fun p => Value.int .i64 (T p)) ++ [.int .i64 i] = (List.range (m + 1)).map fun p => Value.int .i64 ((upd T m i p : Nat) : Int) := by
      rw [map_range_succ]
      apply List.map_congr_left
      intro j _
      by_cases e : j = m
      · subst e; rw [upd_same, upd_same]
      · rw [upd_other _ _ e, upd_other _ _ e]
    rw [e] at hown
    exact hown.kept (row := some h) ⟨rfl, rfl, rfl, by simp [World.setCell], fun k hk hne => Below.heap_setCell _ _ _ _ (fun e => hne (by rw [e]))⟩ (.inr (fun e => d0 (by simpa [Value.ownBlock] using e)))
  · intro e; exact d1 (by simpa [Value.ownBlock] using e)
  · intro e; exact d2 (by simpa [Value.ownBlock] using e)
  · intro e; exact d0 (by simpa [Value.ownBlock] using e)

set_option maxRecDepth 100000 in
set_option maxHeartbeats 1000000 in
theorem heapPut_new (h ga gk N m i : Nat) (tv : Value) (x k : Int) (hx : x = (i : Int)) (T : Nat → Nat) (at0 ks : Nat → Int) (w : World) (hm : HMem w h ga gk N tv m T at0 ks) (hb : Bij N m T at0) (ho : Ordered ks m T)
    (hi : i < N) (hat : at0 i < 0) :
    Calls Tryd.prog 20 #[.pointer (some ⟨h, 0, none⟩), .int .i64 x, .int .i64 k] w fun e w' => e = .returned .nilIface ∧
      ∃ g' cap' T' at', HMem w' h ga gk N (.slice (some ⟨g', 0, none⟩) (m + 1) cap') (m + 1) T' at' (upd ks i k) ∧ Bij N (m + 1) T' at' ∧ Ordered (upd ks i k) (m + 1) T' ∧ (∀ j, j < N → (0 ≤ at' j ↔ (j = i ∨ 0 ≤ at0 j))) ∧ Touch (hS h ga gk tv) w w' ∧
        (tv.ownBlock = some g' ∨ w.heap.size ≤ g') := by
  subst hx
  obtain ⟨i0, hi0, hz0, hz1, hz2⟩ := info_parts infoInt
  have c0 := hm.blk.cell 0
  have c1 := hm.blk.cell 1
  have c2 := hm.blk.cell 2
  simp at c0 c1 c2
  have ca := hm.ra.cell hi
  have ck := hm.rk.cell hi
  have fk := hm.rk.frozen i
  have n1 := hm.nak
  have n2 := hm.nh.1
  have n3 := hm.nh.2.1
  have hi' : (i : Int) < N := by omega
  have hN := hm.size
  have hm5 : m ≤ 5000 := Nat.le_trans hb.le hm.size
  have HM := Lib.hid (hm.setK i k)
  have HT : Hid (Touch (hS h ga gk tv) w (w.setCell ⟨gk, i, none⟩ (.int .i64 k))) := (Touch.refl _ _).setCell (.inl (by simp [hS])) _
  have HO := Lib.hid (Hole.put_new hb ho hat k)
  have HB := Lib.hid (hb.put_new hi hat)
  have HI := Lib.hid hi0
  have HZ := Lib.hid hz0
  have HZ1 := Lib.hid hz1
  have HZ2 := Lib.hid hz2
  clear hm hi0 hz0 hz1 hz2
  go_enter Tryd.func20, Tryd.ntmps20
  go_wp2_with (at_builtin; (refine wpList_append_own_at _ rfl (.tmp 38) (.tmp 40) 23 rfl 0 3 i0 (.int .i64 0) 1 8 Tryd.underlying23 HI.out HZ.out HZ1.out HZ2.out rfl (by decide) _ _ _ rfl (HM.out.own.alloc _) _ 1 1 [.int .i64 i] rfl rfl (cell_new_at _ _ _ (by simp [World.setCell])) (by simp [Value.oneCell']) (by unfold maxLen; omega) (by omega) (Nat.zero_le _) ?_))
  intro v1 w1 hown1 hg1 hnil1 hat1
  obtain ⟨g', cap', hv1, -, hlt1⟩ := hown1.form (by omega)
  subst hv1
  have hma := HM.out.touch (S := fun _ => False) ((Touch.refl _ _).alloc (.cells #[.int .i64 i] 3)) (fun _ _ h => h)
  have hat2 : tv.ownBlock = some g' ∨ ((w.setCell ⟨gk, i, none⟩ (.int .i64 k)).alloc (.cells #[.int .i64 i] 3)).heap.size ≤ g' := by
    rcases hat1 with e | e
    · exact .inl (by rw [← e]; rfl)
    · refine .inr ?_
      simp [Value.ownBlock] at e
      simp
      omega
  have hbl := hma.blk.grown hg1 (fun e => hma.nh.2.2 e.symm)
  have d0 := hbl.cell 0
  have d1 := hbl.cell 1
  have g0 := hbl.frozen 0
  simp at d0 d1
  have da := (hma.ra.of_block (hg1.block _ hma.ra.lt (fun e => hma.nta e.symm))).cell hi
  have fa := (hma.ra.of_block (hg1.block _ hma.ra.lt (fun e => hma.nta e.symm))).frozen i
  have HM1 := Lib.hid (HMem.grown i hma hown1 hg1 hat2)
  have ht1 : Touch (hS h ga gk tv) w w1 := (HT.out.alloc _).grown hg1 (fun b e => .inl (.inr (.inr (.inr e))))
  have HT1 := Lib.hid ht1
  have HAT : Hid (tv.ownBlock = some g' ∨ w.heap.size ≤ g') := by
    rcases hat2 with e | e
    · exact .inl e
    · simp at e
      exact .inr (by omega)
  clear hma hbl hat1 hat2 hg1 hown1 hnil1 ht1 c0 c1 c2 ca ck fk
  go_wp2_with fail
  go_region
  have HM2 := Lib.hid ((HM1.out.setA i m).drew)
  have HT2 : Hid (Touch (hS h ga gk tv) w ((w1.setCell ⟨h, 0, none⟩ (.slice (some ⟨g', 0, none⟩) (m + 1) cap')).setCell ⟨ga, i, none⟩ (.int .i64 m)).drew) :=
    ((HT1.out.setCell (.inl (.inl rfl)) _).setCell (.inl (.inr (.inl rfl))) _).drew
  have hS2 : Hid (∀ b, hS h ga gk (.slice (some ⟨g', 0, none⟩) (m + 1) cap') b → hS h ga gk tv b ∨ w.heap.size ≤ b) := by
    intro b hb'
    rcases hb' with e | e | e | e
    · exact .inl (.inl e)
    · exact .inl (.inr (.inl e))
    · exact .inl (.inr (.inr (.inl e)))
    · simp [Value.ownBlock] at e
      subst e
      rcases HAT.out with e | e
      · exact .inl (.inr (.inr (.inr e)))
      · exact .inr e
  clear HM1 HT1
  go_wp2_with fail
  have hcall := heapUp h ga gk N (m + 1) m g' cap' _ rfl _ _ _ _ HM2.out HB.out (by omega) HO.out
  refine hcall.mono ?_
  clear hcall
  rintro e w2 ⟨rfl, p2, T2, at2, hm2, hb2, hp2, hTp2, hs2, hat2, ht2⟩
  have c1b := hm2.blk.cell 1
  simp at c1b
  have ca2 := hm2.ra.cell hi
  have e2 : at2 i = p2 := by rw [← hb2.pos p2 hp2, hTp2, upd_same]
  rw [e2] at ca2
  have HM3 := Lib.hid hm2
  have HT3 := Lib.hid (HT2.out.trans' ht2 hS2.out)
  have HA2 := Lib.hid hat2
  clear hm2 ht2 e2 hTp2 d0 d1 da fa g0 hat2
  go_wp2_with fail
  have hcall := heapDown h ga gk N (m + 1) p2 g' cap' _ rfl T2 at2 _ _ HM3.out hb2 hp2 hs2
  refine hcall.mono ?_
  clear hcall
  rintro e w3 ⟨rfl, T3, at3, hm3, hb3, ho3, hat3, ht3⟩
  have HM4 := Lib.hid hm3
  have HT4 := Lib.hid (HT3.out.trans' ht3 hS2.out)
  have HA3 := Lib.hid hat3
  clear hm3 ht3 c1b ca2 hat3
  go_wp2_with fail
  go_ret
  refine ⟨rfl, g', cap', T3, at3, HM4.out, hb3, ho3, fun j hj => ?_, HT4.out, HAT.out⟩
  rw [HA3.out j hj, HA2.out j hj]
  by_cases e : j = i
  · subst e; rw [upd_same]; simp
  · rw [upd_other _ _ e]; simp [e]

/-- Put. -/
theorem heapPut (h N m i : Nat) (S : Nat → Prop) (has : Nat → Bool) (key : Nat → Int) (x k : Int) (hx : x = (i : Int)) (w : World) (hp : Hp w h N m S has key) (hi : i < N) :
    Calls Tryd.prog 20 #[.pointer (some ⟨h, 0, none⟩), .int .i64 x, .int .i64 k] w fun e w' => e = .returned .nilIface ∧
      HpStep w w' h N (if has i then m else m + 1) S (upd has i true) (upd key i k) := by
  obtain ⟨ga, gk, tv, T, at0, ks, hm, hb, ho, hh, hk, hs⟩ := hp
  by_cases h0 : 0 ≤ at0 i
  · obtain ⟨p, hp, e1, e2⟩ := hb.inv i hi h0
    obtain ⟨gt, cap, htv, -, -⟩ := hm.own.form (by omega)
    subst htv
    have e3 : has i = true := by rw [hh i hi]; exact decide_eq_true h0
    refine (heapPut_old h ga gk N m i p gt cap x k hx T at0 ks w hm hb ho hi hp e1 e2).mono ?_
    rintro e w' ⟨rfl, T', at', hm', hb', ho', hat', ht'⟩
    rw [e3]
    exact ⟨rfl, _, Hp.put hm' hb' ho' hat' hh hk, ht'.mono hs, fun b hb => .inl (hs b hb)⟩
  · have e3 : has i = false := by rw [hh i hi]; exact decide_eq_false h0
    refine (heapPut_new h ga gk N m i tv x k hx T at0 ks w hm hb ho hi (by omega)).mono ?_
    rintro e w' ⟨rfl, g', cap', T', at', hm', hb', ho', hat', ht', hg'⟩
    rw [e3]
    refine ⟨rfl, _, Hp.put hm' hb' ho' hat' hh hk, ht'.mono hs, fun b hb => ?_⟩
    rcases hb with e | e | e | e
    · exact .inl (hs b (.inl e))
    · exact .inl (hs b (.inr (.inl e)))
    · exact .inl (hs b (.inr (.inr (.inl e))))
    · simp [Value.ownBlock] at e
      subst e
      rcases hg' with e | e
      · exact .inl (hs _ (.inr (.inr (.inr e))))
      · exact .inr e

end Go.Proofs.YtdilajieimbdnaaDoor

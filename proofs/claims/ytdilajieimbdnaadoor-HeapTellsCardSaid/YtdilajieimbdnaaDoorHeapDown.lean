/- The walk of package heap's fall. -/
import Derived.Test.YtdilajieimbdnaaDoorHeap
namespace Go.Proofs.YtdilajieimbdnaaDoor
open Go.RowKit
set_option linter.unusedVariables false

/-- A quiet call behind other draws. -/
theorem quiet_add {P : Program} {f : FuncId} {args : Array Value} {w : World} {a n : Nat} {v : Value}
    (h : Calls P f args (w.drewN (a + n)) fun e w' => e = .returned v ∧ ∃ m, w' = (w.drewN (a + n)).drewN m) :
    Calls P f args (w.drewN (a + n)) fun e w'' => e = .returned v ∧ ∃ m, w'' = w.drewN (a + m) :=
  h.mono fun _ _ ⟨he, m, hm⟩ => ⟨he, n + m, by rw [hm, World.drewN_drewN, Nat.add_assoc]⟩

/-- The lesser one of a place and its children, told one after the other. -/
def least1 (key : Nat → Int) (m : Nat) (T : Nat → Nat) (p : Nat) : Nat := if decide (2 * p + 1 < m) && aheadB key (T (2 * p + 1)) (T p) then 2 * p + 1 else p
def least2 (key : Nat → Int) (m : Nat) (T : Nat → Nat) (p : Nat) : Nat := if decide (2 * p + 2 < m) && aheadB key (T (2 * p + 2)) (T (least1 key m T p)) then 2 * p + 2 else least1 key m T p
def leastR (key : Nat → Int) (m : Nat) (T : Nat → Nat) (p r : Nat) : Nat := if r = 0 then p else if r = 1 then least1 key m T p else least2 key m T p

theorem least1_lt {key : Nat → Int} {m : Nat} {T : Nat → Nat} {p : Nat} (hp : p < m) : least1 key m T p < m := by
  unfold least1
  by_cases h : 2 * p + 1 < m
  · cases aheadB key (T (2 * p + 1)) (T p) <;> simp [h, hp]
  · simp [h, hp]
theorem least2_lt {key : Nat → Int} {m : Nat} {T : Nat → Nat} {p : Nat} (hp : p < m) : least2 key m T p < m := by
  unfold least2
  by_cases h : 2 * p + 2 < m
  · cases aheadB key (T (2 * p + 2)) (T (least1 key m T p)) <;> simp [h, least1_lt hp]
  · simp [h, least1_lt hp]

/-- What the lesser one is. -/
theorem least2_says {key : Nat → Int} {m : Nat} {T : Nat → Nat} {p : Nat} (hp : p < m) :
    (∀ s, 0 < s → s < m → (s - 1) / 2 = p → ¬ AheadP key (T s) (T (least2 key m T p))) ∧
      (least2 key m T p ≠ p → 0 < least2 key m T p ∧ least2 key m T p < m ∧ (least2 key m T p - 1) / 2 = p ∧ AheadP key (T (least2 key m T p)) (T p)) := by
  have h1 : (least1 key m T p = p ∧ (2 * p + 1 < m → ¬ AheadP key (T (2 * p + 1)) (T p))) ∨ (least1 key m T p = 2 * p + 1 ∧ 2 * p + 1 < m ∧ AheadP key (T (2 * p + 1)) (T p)) := by
    unfold least1
    by_cases h : 2 * p + 1 < m
    · cases e : aheadB key (T (2 * p + 1)) (T p)
      · exact .inl ⟨by simp, fun _ => aheadB_no e⟩
      · exact .inr ⟨by simp [h], h, aheadB_yes e⟩
    · exact .inl ⟨by simp [h], fun hh => absurd hh h⟩
  have h2 : (least2 key m T p = least1 key m T p ∧ (2 * p + 2 < m → ¬ AheadP key (T (2 * p + 2)) (T (least1 key m T p)))) ∨ (least2 key m T p = 2 * p + 2 ∧ 2 * p + 2 < m ∧ AheadP key (T (2 * p + 2)) (T (least1 key m T p))) := by
    unfold least2
    by_cases h : 2 * p + 2 < m
    · cases e : aheadB key (T (2 * p + 2)) (T (least1 key m T p))
      · exact .inl ⟨by simp, fun _ => aheadB_no e⟩
      · exact .inr ⟨by simp [h], h, aheadB_yes e⟩
    · exact .inl ⟨by simp [h], fun hh => absurd hh h⟩
  have hs : ∀ s, 0 < s → (s - 1) / 2 = p → s = 2 * p + 1 ∨ s = 2 * p + 2 := fun s h0 hh => by omega
  rcases h2 with ⟨e2, f2⟩ | ⟨e2, l2, f2⟩
  · rw [e2]
    rcases h1 with ⟨e1, f1⟩ | ⟨e1, l1, f1⟩
    · rw [e1] at f2 ⊢
      refine ⟨fun s s0 sm sp => ?_, fun h => absurd rfl h⟩
      rcases hs s s0 sp with rfl | rfl
      · exact f1 sm
      · exact f2 sm
    · rw [e1] at f2 ⊢
      refine ⟨fun s s0 sm sp => ?_, fun _ => ⟨by omega, l1, by omega, f1⟩⟩
      rcases hs s s0 sp with rfl | rfl
      · exact notAhead_refl
      · exact f2 sm
  · rw [e2]
    rcases h1 with ⟨e1, f1⟩ | ⟨e1, l1, f1⟩
    · rw [e1] at f2
      refine ⟨fun s s0 sm sp => ?_, fun _ => ⟨by omega, l2, by omega, f2⟩⟩
      rcases hs s s0 sp with rfl | rfl
      · exact fun h => f1 sm (h.trans f2)
      · exact notAhead_refl
    · rw [e1] at f2
      refine ⟨fun s s0 sm sp => ?_, fun _ => ⟨by omega, l2, by omega, f2.trans f1⟩⟩
      rcases hs s s0 sp with rfl | rfl
      · exact f2.asymm
      · exact notAhead_refl

set_option maxRecDepth 100000 in
set_option maxHeartbeats 1000000 in
theorem heapDown (h ga gk N m p0 gt cap : Nat) (px : Int) (hpx : px = (p0 : Int)) (T0 : Nat → Nat) (at0 key : Nat → Int) (w : World) (hm : HMem w h ga gk N (.slice (some ⟨gt, 0, none⟩) m cap) m T0 at0 key) (hb : Bij N m T0 at0) (hp0 : p0 < m) (sink : Sink key m T0 p0) :
    Calls Tryd.prog 59 #[.pointer (some ⟨h, 0, none⟩), .int .i64 px] w fun e w' => e = .returned (.tuple #[]) ∧
      ∃ T at_, HMem w' h ga gk N (.slice (some ⟨gt, 0, none⟩) m cap) m T at_ key ∧ Bij N m T at_ ∧ Ordered key m T ∧ (∀ j, j < N → (0 ≤ at_ j ↔ 0 ≤ at0 j)) ∧ Touch (hS h ga gk (.slice (some ⟨gt, 0, none⟩) m cap)) w w' := by
  subst hpx
  have hm5 : m ≤ 5000 := Nat.le_trans hb.le hm.size
  have HH : Hid (∃ T at_, HMem w h ga gk N (.slice (some ⟨gt, 0, none⟩) m cap) m T at_ key ∧ Bij N m T at_ ∧ Sink key m T p0 ∧ (∀ j, j < N → (0 ≤ at_ j ↔ 0 ≤ at0 j)) ∧ Touch (hS h ga gk (.slice (some ⟨gt, 0, none⟩) m cap)) w w) :=
    ⟨T0, at0, hm, hb, sink, fun _ _ => Iff.rfl, Touch.refl _ _⟩
  clear hm hb sink
  go_enter Tryd.func59, Tryd.ntmps59
  go_wp2_with fail
  go_loopw [1] (fun v wr => ∃ p : Nat, p < m ∧ v = .int .i64 p ∧ ∃ T at_, HMem wr h ga gk N (.slice (some ⟨gt, 0, none⟩) m cap) m T at_ key ∧ Bij N m T at_ ∧ Sink key m T p ∧ (∀ j, j < N → (0 ≤ at_ j ↔ 0 ≤ at0 j)) ∧ Touch (hS h ga gk (.slice (some ⟨gt, 0, none⟩) m cap)) w wr) (fun v _ => m - (intOf v).toNat)
  case atStart => exact ⟨p0, hp0, rfl, HH.out⟩
  case round =>
    obtain ⟨p, hp, rfl, T, at_, hm, hb, sink, hhas, htouch⟩ := hrel
    clear HH
    have HM := Lib.hid hm
    clear hm
    go_wp2_with fail
    obtain ⟨wo, hwo⟩ : ∃ wo : World, wo = wr := ⟨_, rfl⟩
    rw [← hwo] at HM htouch ⊢
    clear hwo
    go_loopw [4, 17] (fun q i wr => ∃ r : Nat, r ≤ 2 ∧ i = .int .i64 r ∧ q = .int .i64 (leastR key m T p r) ∧ ∃ n, wr = wo.drewN n) (fun _ i _ => 2 - (intOf i).toNat)
    case atStart => exact ⟨0, by omega, rfl, by simp [leastR], 0, rfl⟩
    case round =>
      obtain ⟨r, hr, rfl, rfl, nd, rfl⟩ := hrel
      have h3 : r = 0 ∨ r = 1 ∨ r = 2 := by omega
      rcases h3 with rfl | rfl | rfl
      · have c0 := HM.out.blk.cell 0
        simp at c0
        have i0 : ∀ (x y : Value) (W : World), (Instr.index 99 (.agg #[x, y]) (.int .i64 0)).run Tryd.prog W = .ok x W := fun _ _ _ => by kernel_rfl
        obtain ⟨q, hqe⟩ : ∃ q, leastR key m T p 0 = q := ⟨_, rfl⟩
        have hq : q < m := by rw [← hqe]; exact hp
        have HL : Hid (leastR key m T p 1 = if decide (2 * p + 1 < m) && aheadB key (T (2 * p + 1)) (T q) then 2 * p + 1 else q) := by rw [← hqe]; exact rfl
        rw [hqe]
        clear hqe
        by_cases hlt : 2 * p + 1 < m
        · have ct := HM.out.tree.cell hlt
          have cp := HM.out.tree.cell hq
          have e0 : 0 ≤ 2 * (p : Int) + 1 := by omega
          have e1 : 2 * (p : Int) + 1 < m := by omega
          have e2 : (2 * (p : Int) + 1).toNat = 2 * p + 1 := by omega
          have e3 : (q : Int) < m := by omega
          cases ha : aheadB key (T (2 * p + 1)) (T q)
          · go_wp2_with fail
            go_quiet ((go_at_call 75; exact quiet_add (heapAhead h ga gk N m _ _ _ T at_ key _ (HM.out.drewN _) (hb.lt _ hlt) (hb.lt _ hq))))
            go_wp2_with fail
            go_roundw
            case rel => exact ⟨1, by omega, rfl, by rw [HL.out, ha, Bool.and_false]; rfl, _, rfl⟩
            case measure => simp [intOf]
          · go_wp2_with fail
            go_quiet ((go_at_call 75; exact quiet_add (heapAhead h ga gk N m _ _ _ T at_ key _ (HM.out.drewN _) (hb.lt _ hlt) (hb.lt _ hq))))
            go_wp2_with fail
            go_roundw
            case rel => exact ⟨1, by omega, rfl, by rw [HL.out, ha, Bool.and_true, decide_eq_true hlt]; go_num, _, rfl⟩
            case measure => simp [intOf]
        · have e1 : decide (2 * (p : Int) + 1 < m) = false := by simp; omega
          have e1' : ¬ 2 * (p : Int) + 1 < (m : Int) := by omega
          have HE : Hid (decide (2 * p + 1 < m) = false) := by
            show decide (2 * p + 1 < m) = false
            simp; omega
          clear hlt
          go_wp2_with fail
          go_quiet (fail)
          go_wp2_with fail
          go_roundw
          case rel => exact ⟨1, by omega, rfl, by rw [HL.out, HE.out, Bool.false_and]; rfl, _, rfl⟩
          case measure => simp [intOf]
      · have c0 := HM.out.blk.cell 0
        simp at c0
        have i0 : ∀ (x y : Value) (W : World), (Instr.index 99 (.agg #[x, y]) (.int .i64 1)).run Tryd.prog W = .ok y W := fun _ _ _ => by kernel_rfl
        obtain ⟨q, hqe⟩ : ∃ q, leastR key m T p 1 = q := ⟨_, rfl⟩
        have hq : q < m := by rw [← hqe]; exact least1_lt hp
        have HL : Hid (leastR key m T p 2 = if decide (2 * p + 2 < m) && aheadB key (T (2 * p + 2)) (T q) then 2 * p + 2 else q) := by rw [← hqe]; exact rfl
        rw [hqe]
        clear hqe
        by_cases hlt : 2 * p + 2 < m
        · have ct := HM.out.tree.cell hlt
          have cp := HM.out.tree.cell hq
          have e0 : 0 ≤ 2 * (p : Int) + 2 := by omega
          have e1 : 2 * (p : Int) + 2 < m := by omega
          have e2 : (2 * (p : Int) + 2).toNat = 2 * p + 2 := by omega
          have e3 : (q : Int) < m := by omega
          cases ha : aheadB key (T (2 * p + 2)) (T q)
          · go_wp2_with fail
            go_quiet ((go_at_call 75; exact quiet_add (heapAhead h ga gk N m _ _ _ T at_ key _ (HM.out.drewN _) (hb.lt _ hlt) (hb.lt _ hq))))
            go_wp2_with fail
            go_roundw
            case rel => exact ⟨2, by omega, rfl, by rw [HL.out, ha, Bool.and_false]; rfl, _, rfl⟩
            case measure => simp [intOf]
          · go_wp2_with fail
            go_quiet ((go_at_call 75; exact quiet_add (heapAhead h ga gk N m _ _ _ T at_ key _ (HM.out.drewN _) (hb.lt _ hlt) (hb.lt _ hq))))
            go_wp2_with fail
            go_roundw
            case rel => exact ⟨2, by omega, rfl, by rw [HL.out, ha, Bool.and_true, decide_eq_true hlt]; go_num, _, rfl⟩
            case measure => simp [intOf]
        · have e1 : decide (2 * (p : Int) + 2 < m) = false := by simp; omega
          have e1' : ¬ 2 * (p : Int) + 2 < (m : Int) := by omega
          have HE : Hid (decide (2 * p + 2 < m) = false) := by
            show decide (2 * p + 2 < m) = false
            simp; omega
          clear hlt
          go_wp2_with fail
          go_quiet (fail)
          go_wp2_with fail
          go_roundw
          case rel => exact ⟨2, by omega, rfl, by rw [HL.out, HE.out, Bool.false_and]; rfl, _, rfl⟩
          case measure => simp [intOf]
      · have HS := least2_says (key := key) (T := T) hp
        have hq2 : least2 key m T p < m := least2_lt hp
        rw [show leastR key m T p 2 = least2 key m T p from rfl]
        by_cases hqp : least2 key m T p = p
        · rw [hqp] at HS ⊢
          have HO := Lib.hid (sink.stop HS.1)
          clear HS hqp hq2 sink
          go_wp2_with fail
          refine bodyPost_ret (results_none rfl _ _ _) rfl ?_
          exact ⟨rfl, T, at_, HM.out.drewN _, hb, HO.out, hhas, htouch.drewN _⟩
        · obtain ⟨q0, qm, qp, qa⟩ := HS.2 hqp
          have HD := Lib.hid (sink.down q0 qm qp qa HS.1)
          clear HS qa hq2 sink
          generalize least2 key m T p = q at *
          have hpq : p < q := by omega
          have e1 : ((q : Int) == (p : Int)) = false := by simp; omega
          have e2 : (q == p) = false := by simp; omega
          have c0 := HM.out.blk.cell 0
          simp at c0
          have cq := HM.out.tree.cell qm
          have cp := HM.out.tree.cell hp
          have e3 : (q : Int) < m := by omega
          have e4 : (p : Int) < m := by omega
          have QP : Hid ((q - 1) / 2 = p) := qp
          clear qp hqp
          go_wp2_with fail
          go_quiet (fail)
          go_wp2_with fail
          have hcall := heapSet h ga gk N m (T q) p gt cap _ rfl T at_ key _ (HM.out.drewN (nd + nq)) (hb.lt _ qm) hp
          refine hcall.mono ?_
          clear hcall
          rintro e w2 ⟨rfl, hm2, ht2⟩
          have HM2 := Lib.hid hm2
          have HT2 := Lib.hid (Touch.trans (htouch.drewN (nd + nq)) ht2)
          clear hm2 ht2 c0 cq cp
          go_wp2_with fail
          have hcall := heapSet h ga gk N m (T p) q gt cap _ rfl _ _ key _ HM2.out (hb.lt _ hp) qm
          refine hcall.mono ?_
          clear hcall
          rintro e w3 ⟨rfl, hm3, ht3⟩
          have HM3 := Lib.hid hm3
          have HT3 := Lib.hid (Touch.trans HT2.out ht3)
          clear hm3 ht3
          go_wp2_with fail
          go_roundw
          case rel =>
            refine ⟨q, qm, rfl, swapT T p q, swapA at_ T p q, HM3.out, hb.swap hp qm (by omega), HD.out, fun j hj => ?_, HT3.out⟩
            rw [← hhas j hj]
            unfold swapA
            by_cases e1 : j = T p
            · subst e1; rw [upd_same, hb.pos _ hp]; omega
            · rw [upd_other _ _ e1]
              by_cases e2 : j = T q
              · subst e2; rw [upd_same, hb.pos _ qm]; omega
              · rw [upd_other _ _ e2]
          case measure => simp [intOf]; omega

end Go.Proofs.YtdilajieimbdnaaDoor

/- The walks of package heap: set, ahead. -/
import Derived.Test.YtdilajieimbdnaaDoorHeapMath
import Derived.Deep.QuietTactic
import Derived.BigQuiet
namespace Go.Proofs.YtdilajieimbdnaaDoor
open Go.RowKit
set_option linter.unusedVariables false

/-- What the heap at block h holds: the tree's slice tv with m things, where each is, the keys. -/
structure HMem (w : World) (h ga gk N : Nat) (tv : Value) (m : Nat) (T : Nat → Nat) (at_ key : Nat → Int) : Prop where
  blk : Blk w h 91 #[tv, .slice (some ⟨ga, 0, none⟩) N N, .slice (some ⟨gk, 0, none⟩) N N]
  ra : RowP w ga 3 N (fun i => .int .i64 (at_ i))
  rk : RowP w gk 3 N (fun i => .int .i64 (key i))
  own : w.ownsRow 0 3 1 tv m ((List.range m).map fun p => .int .i64 (T p))
  nak : ga ≠ gk
  nta : tv.ownBlock ≠ some ga
  ntk : tv.ownBlock ≠ some gk
  nh : h ≠ ga ∧ h ≠ gk ∧ tv.ownBlock ≠ some h
  size : N ≤ 5000

/-- Its blocks. -/
def hS (h ga gk : Nat) (tv : Value) : Nat → Prop := fun k => k = h ∨ k = ga ∨ k = gk ∨ tv.ownBlock = some k

/-- Does i stand ahead of k? -/
def aheadB (key : Nat → Int) (i k : Nat) : Bool := decide (key i < key k ∨ key i = key k ∧ i < k)

theorem aheadB_no {key : Nat → Int} {i k : Nat} (h : aheadB key i k = false) : ¬ AheadP key i k := by simpa [aheadB, AheadP] using h
theorem aheadB_yes {key : Nat → Int} {i k : Nat} (h : aheadB key i k = true) : AheadP key i k := by simpa [aheadB, AheadP] using h

set_option maxHeartbeats 1000000 in
theorem heapAhead (h ga gk N m i k : Nat) (tv : Value) (T : Nat → Nat) (at_ key : Nat → Int) (w : World) (hm : HMem w h ga gk N tv m T at_ key) (hi : i < N) (hk : k < N) :
    Calls Tryd.prog 75 #[.pointer (some ⟨h, 0, none⟩), .int .i64 i, .int .i64 k] w fun e w' => e = .returned (.bool (aheadB key i k)) ∧ ∃ n, w' = w.drewN n := by
  have c2 := hm.blk.cell 2
  have ki := hm.rk.cell hi
  have kk := hm.rk.cell hk
  simp at c2
  clear hm
  have hi' : (i : Int) < N := by omega
  have hk' : (k : Int) < N := by omega
  by_cases h1 : key i < key k
  · have e : aheadB key i k = true := by simp [aheadB, h1]
    have E := Lib.hid e
    clear e
    go_enter Tryd.func75, Tryd.ntmps75
    go_wp2
    go_quiet (fail)
    go_wp2
    go_ret
    exact ⟨by rw [E.out]; rfl, _, rfl⟩
  · by_cases h2 : key i = key k
    · have h3 : (key i == key k) = true := by simp [h2]
      have e : aheadB key i k = decide (i < k) := by simp [aheadB, h2]
      have E := Lib.hid e
      have h4 : decide (key i < key k) = false := by simp [h1]
      clear e h2 h1
      go_enter Tryd.func75, Tryd.ntmps75
      go_wp2
      go_quiet (fail)
      go_wp2
      go_ret
      exact ⟨by rw [E.out]; rfl, _, rfl⟩
    · have h3 : (key i == key k) = false := by simp [h2]
      have e : aheadB key i k = false := by simp [aheadB, h1, h2]
      have E := Lib.hid e
      have h4 : decide (key i < key k) = false := by simp [h1]
      clear e h2 h1
      go_enter Tryd.func75, Tryd.ntmps75
      go_wp2
      go_quiet (fail)
      go_wp2
      go_ret
      exact ⟨by rw [E.out]; rfl, _, rfl⟩

theorem HMem.tree {w : World} {h ga gk N gt m cap : Nat} {T : Nat → Nat} {at_ key : Nat → Int} (hm : HMem w h ga gk N (.slice (some ⟨gt, 0, none⟩) m cap) m T at_ key) : RowP w gt 3 m (fun p => .int .i64 (T p)) :=
  RowP.of_own hm.own

theorem HMem.setT {w : World} {h ga gk N gt m cap : Nat} {T : Nat → Nat} {at_ key : Nat → Int} (hm : HMem w h ga gk N (.slice (some ⟨gt, 0, none⟩) m cap) m T at_ key) (p i : Nat) :
    HMem (w.setCell ⟨gt, p, none⟩ (.int .i64 i)) h ga gk N (.slice (some ⟨gt, 0, none⟩) m cap) m (upd T p i) at_ key := by
  have n1 : gt ≠ ga := fun e => hm.nta (by simp [Value.ownBlock, e])
  have n2 : gt ≠ gk := fun e => hm.ntk (by simp [Value.ownBlock, e])
  have n3 : gt ≠ h := fun e => hm.nh.2.2 (by simp [Value.ownBlock, e])
  refine ⟨hm.blk.far (fun e => n3 e.symm) _, hm.ra.setOther (fun e => n1 e.symm) _, hm.rk.setOther (fun e => n2 e.symm) _, ?_, hm.nak, hm.nta, hm.ntk, hm.nh, hm.size⟩
  have hs := (hm.own.stored p (.int .i64 i)).1
  rw [map_range_set] at hs
  have e : (fun j => Value.int .i64 ((upd T p i j : Nat) : Int)) = upd (fun j => Value.int .i64 (T j)) p (.int .i64 i) := by
    funext j
    by_cases hj : j = p
    · subst hj; rw [upd_same, upd_same]
    · rw [upd_other _ _ hj, upd_other _ _ hj]
  rw [e]
  exact hs

theorem HMem.setA {w : World} {h ga gk N m : Nat} {tv : Value} {T : Nat → Nat} {at_ key : Nat → Int} (hm : HMem w h ga gk N tv m T at_ key) (i : Nat) (x : Int) :
    HMem (w.setCell ⟨ga, i, none⟩ (.int .i64 x)) h ga gk N tv m T (upd at_ i x) key := by
  refine ⟨hm.blk.far hm.nh.1 _, ?_, hm.rk.setOther (fun e => hm.nak e.symm) _, ?_, hm.nak, hm.nta, hm.ntk, hm.nh, hm.size⟩
  · refine (hm.ra.set i (.int .i64 x)).congr fun j hj => ?_
    by_cases e : j = i
    · subst e; rw [upd_same, upd_same]
    · rw [upd_other _ _ e, upd_other _ _ e]
  · exact hm.own.kept (row := some ga) ⟨rfl, rfl, rfl, by simp [World.setCell], fun k hk hne => Below.heap_setCell _ _ _ _ (fun e => hne (by rw [e]))⟩ (.inr hm.nta)

theorem HMem.setK {w : World} {h ga gk N m : Nat} {tv : Value} {T : Nat → Nat} {at_ key : Nat → Int} (hm : HMem w h ga gk N tv m T at_ key) (i : Nat) (x : Int) :
    HMem (w.setCell ⟨gk, i, none⟩ (.int .i64 x)) h ga gk N tv m T at_ (upd key i x) := by
  refine ⟨hm.blk.far hm.nh.2.1 _, hm.ra.setOther hm.nak _, ?_, ?_, hm.nak, hm.nta, hm.ntk, hm.nh, hm.size⟩
  · refine (hm.rk.set i (.int .i64 x)).congr fun j hj => ?_
    by_cases e : j = i
    · subst e; rw [upd_same, upd_same]
    · rw [upd_other _ _ e, upd_other _ _ e]
  · exact hm.own.kept (row := some gk) ⟨rfl, rfl, rfl, by simp [World.setCell], fun k hk hne => Below.heap_setCell _ _ _ _ (fun e => hne (by rw [e]))⟩ (.inr hm.ntk)

theorem HMem.drewN {w : World} {h ga gk N m : Nat} {tv : Value} {T : Nat → Nat} {at_ key : Nat → Int} (hm : HMem w h ga gk N tv m T at_ key) (n : Nat) : HMem (w.drewN n) h ga gk N tv m T at_ key :=
  ⟨hm.blk, hm.ra, hm.rk, hm.own, hm.nak, hm.nta, hm.ntk, hm.nh, hm.size⟩
theorem HMem.drew {w : World} {h ga gk N m : Nat} {tv : Value} {T : Nat → Nat} {at_ key : Nat → Int} (hm : HMem w h ga gk N tv m T at_ key) : HMem w.drew h ga gk N tv m T at_ key :=
  ⟨hm.blk, hm.ra, hm.rk, hm.own, hm.nak, hm.nta, hm.ntk, hm.nh, hm.size⟩

set_option maxHeartbeats 1000000 in
theorem heapSet (h ga gk N m i p gt cap : Nat) (px : Int) (hpx : px = (p : Int)) (T : Nat → Nat) (at_ key : Nat → Int) (w : World) (hm : HMem w h ga gk N (.slice (some ⟨gt, 0, none⟩) m cap) m T at_ key) (hi : i < N) (hp : p < m) :
    Calls Tryd.prog 57 #[.pointer (some ⟨h, 0, none⟩), .int .i64 px, .int .i64 i] w fun e w' => e = .returned (.tuple #[]) ∧
      HMem w' h ga gk N (.slice (some ⟨gt, 0, none⟩) m cap) m (upd T p i) (upd at_ i p) key ∧ Touch (hS h ga gk (.slice (some ⟨gt, 0, none⟩) m cap)) w w' := by
  subst hpx
  have c0 := hm.blk.cell 0
  have c1 := hm.blk.cell 1
  simp at c0 c1
  have ct := hm.tree.cell hp
  have ca := hm.ra.cell hi
  have ft := hm.tree.frozen p
  have fa := hm.ra.frozen i
  have n1 : gt ≠ ga := fun e => hm.nta (by simp [Value.ownBlock, e])
  have hi' : (i : Int) < N := by omega
  have hp' : (p : Int) < m := by omega
  have HM := Lib.hid hm
  clear hm
  go_enter Tryd.func57, Tryd.ntmps57
  go_wp2
  go_region
  all_goals
    go_end0
    exact ⟨rfl, ((HM.out.setT p i).setA i p).drew, (((Touch.refl _ _).setCell (.inl (by simp [hS, Value.ownBlock])) _).setCell (.inl (by simp [hS])) _).drew⟩

set_option maxHeartbeats 1000000 in
theorem heapUp (h ga gk N m p0 gt cap : Nat) (px : Int) (hpx : px = (p0 : Int)) (T0 : Nat → Nat) (at0 key : Nat → Int) (w : World) (hm : HMem w h ga gk N (.slice (some ⟨gt, 0, none⟩) m cap) m T0 at0 key) (hb : Bij N m T0 at0) (hp0 : p0 < m) (hole : Hole key m T0 p0) :
    Calls Tryd.prog 58 #[.pointer (some ⟨h, 0, none⟩), .int .i64 px] w fun e w' => e = .returned (.tuple #[]) ∧
      ∃ p T at_, HMem w' h ga gk N (.slice (some ⟨gt, 0, none⟩) m cap) m T at_ key ∧ Bij N m T at_ ∧ p < m ∧ T p = T0 p0 ∧ Sink key m T p ∧ (∀ j, j < N → (0 ≤ at_ j ↔ 0 ≤ at0 j)) ∧ Touch (hS h ga gk (.slice (some ⟨gt, 0, none⟩) m cap)) w w' := by
  subst hpx
  have c0 := hm.blk.cell 0
  simp at c0
  have ct := hm.tree.cell hp0
  have hp' : (p0 : Int) < m := by omega
  have hm5 : m ≤ 5000 := Nat.le_trans hb.le hm.size
  have HH : Hid (∃ T at_, HMem w h ga gk N (.slice (some ⟨gt, 0, none⟩) m cap) m T at_ key ∧ Bij N m T at_ ∧ T p0 = T0 p0 ∧ Hole key m T p0 ∧ (∀ j, j < N → (0 ≤ at_ j ↔ 0 ≤ at0 j)) ∧ Touch (hS h ga gk (.slice (some ⟨gt, 0, none⟩) m cap)) w w) :=
    ⟨T0, at0, hm, hb, rfl, hole, fun _ _ => Iff.rfl, Touch.refl _ _⟩
  clear hm hb hole
  go_enter Tryd.func58, Tryd.ntmps58
  go_wp2_with fail
  go_loopw [1] (fun v wr => ∃ p : Nat, p < m ∧ v = .int .i64 p ∧ ∃ T at_, HMem wr h ga gk N (.slice (some ⟨gt, 0, none⟩) m cap) m T at_ key ∧ Bij N m T at_ ∧ T p = T0 p0 ∧ Hole key m T p ∧ (∀ j, j < N → (0 ≤ at_ j ↔ 0 ≤ at0 j)) ∧ Touch (hS h ga gk (.slice (some ⟨gt, 0, none⟩) m cap)) w wr) (fun v _ => (intOf v).toNat)
  case atStart => exact ⟨p0, hp0, rfl, HH.out⟩
  case round =>
    obtain ⟨p, hp, rfl, T, at_, hm, hb, hTp, hole, hhas, htouch⟩ := hrel
    clear HH ct c0
    cases p with
    | zero => 
      have HM := Lib.hid hm
      clear hm
      go_wp2_with fail
      go_end0
      exact ⟨rfl, 0, T, at_, HM.out, hb, hp, hTp, hole.stop (.inl rfl), hhas, htouch⟩
    | succ p =>
      have c0 := hm.blk.cell 0
      simp at c0
      have hq : p / 2 < m := by omega
      have ct := hm.tree.cell hq
      have hq' : ((p : Int) / 2) < m := by omega
      have HM := Lib.hid hm
      clear hm
      go_wp2_with fail
      have HX : Hid ((p : Int) + 1 = ((p + 1 : Nat) : Int)) := by
        show (p : Int) + 1 = ((p + 1 : Nat) : Int)
        omega
      have HQ : Hid ((p : Int) / 2 = ((p / 2 : Nat) : Int)) := by
        show (p : Int) / 2 = ((p / 2 : Nat) : Int)
        omega
      have hti : T (p + 1) < N := hb.lt _ hp
      have htq : T (p / 2) < N := hb.lt _ hq
      rw [← hTp]
      have HTp := Lib.hid hTp
      clear hTp
      cases ha : aheadB key (T (p + 1)) (T (p / 2)) with
      | false =>
        have HA := Lib.hid ha
        clear ha
        refine (heapAhead h ga gk N m (T (p + 1)) (T (p / 2)) _ T at_ key _ HM.out hti htq).mono ?_
        rintro e w1 ⟨rfl, nq, rfl⟩
        rw [HA.out]
        go_wp2_with fail
        refine bodyPost_ret (results_none rfl _ _ _) rfl ?_
        exact ⟨rfl, p + 1, T, at_, HM.out.drewN nq, hb, hp, HTp.out, hole.stop (.inr (aheadB_no HA.out)), hhas, htouch.drewN nq⟩
      | true =>
        have HA := Lib.hid ha
        clear ha
        refine (heapAhead h ga gk N m (T (p + 1)) (T (p / 2)) _ T at_ key _ HM.out hti htq).mono ?_
        rintro e w1 ⟨rfl, nq, rfl⟩
        rw [HA.out]
        go_wp2_with fail
        have hcall := heapSet h ga gk N m (T (p / 2)) (p + 1) gt cap _ HX.out T at_ key _ (HM.out.drewN nq) htq hp
        refine hcall.mono ?_
        clear hcall
        rintro e w2 ⟨rfl, hm2, ht2⟩
        have HM2 := Lib.hid hm2
        have HT2 := Lib.hid (Touch.trans (htouch.drewN nq) ht2)
        clear hm2 ht2 ct c0
        go_wp2_with fail
        have hcall := heapSet h ga gk N m (T (p + 1)) (p / 2) gt cap _ HQ.out _ _ key _ HM2.out hti hq
        refine hcall.mono ?_
        clear hcall
        rintro e w3 ⟨rfl, hm3, ht3⟩
        have HM3 := Lib.hid hm3
        have HT3 := Lib.hid (Touch.trans HT2.out ht3)
        clear hm3 ht3
        go_wp2_with fail
        have hup := hole.up (by omega) hp (aheadB_yes HA.out)
        rw [HTp.out]
        go_roundw
        case rel =>
          refine ⟨p / 2, hq, rfl, swapT T (p + 1) (p / 2), swapA at_ T (p + 1) (p / 2), HM3.out, hb.swap hp hq (by omega), by rw [swapT_at', HTp.out], hup, fun j hj => ?_, HT3.out⟩
          rw [← hhas j hj]
          unfold swapA
          by_cases e1 : j = T (p + 1)
          · subst e1; rw [upd_same, hb.pos _ hp]; omega
          · rw [upd_other _ _ e1]
            by_cases e2 : j = T (p / 2)
            · subst e2; rw [upd_same, hb.pos _ hq]; omega
            · rw [upd_other _ _ e2]
        case measure => simp [intOf]; omega

end Go.Proofs.YtdilajieimbdnaaDoor

/- HeapSorts: all that have a key go by their keys, of one key by their numbers, when the least one is dropped again and again. For all inputs; no condition. -/
import Derived.Test.YtjijpcjbigdgjaaHeapDrop
namespace Go.Proofs.Ytjijpcjbigdgjaa
open Go.RowKit
set_option linter.unusedVariables false

/-- A heap of the call's own, in the middle of a law. -/
def OwnHp (W w : World) (h N m : Nat) (has : Nat → Bool) (key : Nat → Int) : Prop := ∃ S, Hp w h N m S has key ∧ Below W.heap.size W w ∧ ∀ b, S b → W.heap.size ≤ b

theorem OwnHp.step {W w w' : World} {h N m m' : Nat} {has has' : Nat → Bool} {key key' : Nat → Int} {S : Nat → Prop} (hb : Below W.heap.size W w) (hS : ∀ b, S b → W.heap.size ≤ b) (hs : HpStep w w' h N m' S has' key') : OwnHp W w' h N m' has' key' := by
  obtain ⟨S', hp, ht, hn⟩ := hs
  have l := hb.size
  refine ⟨S', hp, ht.below hb hb.size hS, fun b hb' => ?_⟩
  rcases hn b hb' with e | e
  · exact hS b e
  · omega

theorem OwnHp.drewN {W w : World} {h N m : Nat} {has : Nat → Bool} {key : Nat → Int} (hp : OwnHp W w h N m has key) (n : Nat) : OwnHp W (w.drewN n) h N m has key := by
  obtain ⟨S, ⟨ga, gk, tv, T, at_, ks, hm, r⟩, hb, hs⟩ := hp
  exact ⟨S, ⟨ga, gk, tv, T, at_, ks, hm.drewN n, r⟩, below_drewN hb n, hs⟩

theorem OwnHp.put {W w : World} {h N m i : Nat} {has : Nat → Bool} {key : Nat → Int} (x k : Int) (hx : x = (i : Int)) (hp : OwnHp W w h N m has key) (hi : i < N) :
    Calls Try.prog 24 #[.pointer (some ⟨h, 0, none⟩), .int .i64 x, .int .i64 k] w fun e w' => e = .returned .nilIface ∧ OwnHp W w' h N (if has i then m else m + 1) (upd has i true) (upd key i k) := by
  obtain ⟨S, hp, hb, hs⟩ := hp
  exact (heapPut h N m i S has key x k hx w hp hi).mono fun e w' ⟨he, hst⟩ => ⟨he, OwnHp.step (m := m) (has := has) (key := key) hb hs hst⟩

theorem OwnHp.drop {W w : World} {h N m i : Nat} {has : Nat → Bool} {key : Nat → Int} (x : Int) (hx : x = (i : Int)) (hp : OwnHp W w h N m has key) (hi : i < N) (hn : has i = true) :
    Calls Try.prog 26 #[.pointer (some ⟨h, 0, none⟩), .int .i64 x] w fun e w' => e = .returned .nilIface ∧ OwnHp W w' h N (m - 1) (upd has i false) key := by
  obtain ⟨S, hp, hb, hs⟩ := hp
  exact (heapDrop h N m i S has key x hx w hp hi hn).mono fun e w' ⟨he, hst⟩ => ⟨he, OwnHp.step (m := m) (has := has) (key := key) hb hs hst⟩

theorem OwnHp.min {W w : World} {h N m : Nat} {has : Nat → Bool} {key : Nat → Int} (hp : OwnHp W w h N m has key) (hm0 : 0 < m) :
    Calls Try.prog 25 #[.pointer (some ⟨h, 0, none⟩)] w fun e w' => ∃ i : Nat, e = .returned (.tuple #[.int .i64 i, .int .i64 (key i), .nilIface]) ∧ IsLeast N has key i ∧ OwnHp W w' h N m has key := by
  have hp' := hp
  obtain ⟨S, hp, hb, hs⟩ := hp
  exact (heapMin_some h N m S has key w hp hm0).mono fun e w' ⟨i, he, hl, n, hw⟩ => ⟨i, he, hl, by rw [hw]; exact hp'.drewN n⟩

theorem OwnHp.len {W w : World} {h N m : Nat} {has : Nat → Bool} {key : Nat → Int} (hp : OwnHp W w h N m has key) :
    Calls Try.prog 27 #[.pointer (some ⟨h, 0, none⟩)] w fun e w' => e = .returned (.int .i64 m) ∧ w = w' := by
  obtain ⟨S, hp, hb, hs⟩ := hp
  exact heapLen h N m S has key w hp

theorem OwnHp.new (W : World) (N : Nat) (x : Int) (hx : x = (N : Int)) (key : Nat → Int) (w : World) (hN : N ≤ 5000) (hb : Below W.heap.size W w) :
    Calls Try.prog 23 #[.int .i64 x] w fun e w' => ∃ h, e = .returned (.tuple #[.pointer (some ⟨h, 0, none⟩), .nilIface]) ∧ OwnHp W w' h N 0 (fun _ => false) key :=
  (heapNew_ok N x hx key w hN).mono fun e w' ⟨h, he, S, hp, hbel, hs, hh⟩ => ⟨h, he, S, hp, keep hb hbel, fun b hb' => Nat.le_trans hb.size (hs b hb').1⟩

set_option maxHeartbeats 1000000 in
theorem heaped_walk (W w : World) (hb : Below W.heap.size W w) :
    Calls Try.prog 22 #[] w fun e w' => e = .returned (.bool true) ∧ Below W.heap.size W w' := by
  go_enter Try.func22, Try.ntmps22
  go_wp2_with fail
  refine (OwnHp.new W 3 _ rfl (fun _ => 0) _ (by omega) hb).mono ?_
  rintro e w1 ⟨h, rfl, hp1⟩
  go_wp2_with fail
  refine (OwnHp.put (i := 1) _ _ rfl hp1 (by omega)).mono ?_
  rintro e w2 ⟨rfl, hp2⟩
  clear hp1 hb
  go_wp2_with fail
  refine (OwnHp.put (i := 2) _ _ rfl hp2 (by omega)).mono ?_
  rintro e w3 ⟨rfl, hp3⟩
  clear hp2
  go_wp2_with fail
  refine (OwnHp.min hp3 (by simp [upd])).mono ?_
  rintro e w4 ⟨i, rfl, hl, hp4⟩
  have hi : i = 2 := by
    obtain ⟨h1, h2, h3⟩ := hl
    have h4 := h3 2 (by omega) (by simp [upd])
    have h5 : i = 0 ∨ i = 1 ∨ i = 2 := by omega
    rcases h5 with rfl | rfl | rfl
    · simp [upd] at h2
    · simp [AheadP, upd] at h4
    · rfl
  have hb4 : Below W.heap.size W w4 := by obtain ⟨S, _, hb, _⟩ := hp4; exact hb
  subst hi
  clear hp3 hl hp4
  have e1 : upd (upd (fun _ => (0 : Int)) 1 5) 2 3 2 = 3 := by simp [upd]
  rw [e1]
  clear e1
  go_wp2_with fail
  go_ret
  exact ⟨rfl, hb4⟩

/-- Those of the last r places. -/
def lastR (N r : Nat) : Nat → Bool := fun j => decide (N ≤ j + r)
theorem lastR_zero {N j : Nat} (hj : j < N) : lastR N 0 j = false := by unfold lastR; simp; omega
theorem lastR_put {N r : Nat} (hr : r < N) : upd (lastR N r) (N - 1 - r) true = lastR N (r + 1) := by
  funext j
  unfold lastR
  by_cases e : j = N - 1 - r
  · subst e; rw [upd_same]; simp; omega
  · rw [upd_other _ _ e, Bool.eq_iff_iff]; simp; omega
theorem upd_self {α : Type} (f : Nat → α) (i : Nat) : upd f i (f i) = f := by
  funext j
  by_cases e : j = i
  · subst e; rw [upd_same]
  · rw [upd_other _ _ e]

theorem OwnHp.congr {W w : World} {h N m : Nat} {has has' : Nat → Bool} {key : Nat → Int} (hp : OwnHp W w h N m has key) (e : ∀ j, j < N → has j = has' j) : OwnHp W w h N m has' key := by
  obtain ⟨S, ⟨ga, gk, tv, T, at_, ks, hm, r1, r2, r3, r4, r5⟩, hb, hs⟩ := hp
  exact ⟨S, ⟨ga, gk, tv, T, at_, ks, hm, r1, r2, fun i hi => by rw [← e i hi]; exact r3 i hi, fun i hi hh => r4 i hi (by rw [e i hi]; exact hh), r5⟩, hb, hs⟩

/-- The middle of the second loop: k have been dropped; who came last stands ahead of all that are left. -/
def Sorting (W w : World) (h N k : Nat) (f : Nat → Int) (last : Int) : Prop :=
  ∃ has, OwnHp W w h N (N - k) has f ∧ (last = -1 ∨ ∃ l : Nat, last = l ∧ l < N ∧ ∀ j, j < N → has j = true → ¬ AheadP f j l)

set_option maxRecDepth 100000 in
set_option maxHeartbeats 1600000 in
theorem heapSorts_walk (A : Option Addr) (n c : Nat) (f : Nat → Int) (w : World) (hv : Vec w A n f) (hn : n ≤ 9223372036854775807) :
    Calls Try.prog 7 #[.slice A n c] w fun e w' => e = .returned (.bool true) ∧ Below w.heap.size w w' := by
  have HV := Lib.hid hv
  clear hv
  by_cases h5 : 5000 < n
  · have h5' : ((n : Int) < 0 ∨ 5000 < (n : Int)) := by omega
    have H5 := Lib.hid h5'
    clear h5'
    go_enter Try.func7, Try.ntmps7
    go_wp2_with fail
    refine (heaped_walk w w (Below.refl _ _)).mono ?_
    rintro e w1 ⟨rfl, hb1⟩
    go_wp2_with fail
    refine (heapNew_bad _ _ H5.out).mono ?_
    rintro e w2 ⟨rfl, rfl⟩
    have h200 : (200 : Int) < n := by omega
    go_wp2_with fail
    go_ret
    exact ⟨rfl, hb1⟩
  · go_enter Try.func7, Try.ntmps7
    go_wp2_with fail
    refine (heaped_walk w w (Below.refl _ _)).mono ?_
    rintro e w1 ⟨rfl, hb1⟩
    go_wp2_with fail
    refine (OwnHp.new w n _ rfl f _ (by omega) hb1).mono ?_
    rintro e w2 ⟨h, rfl, hp2⟩
    have hb2 : Below w.heap.size w w2 := by obtain ⟨S, _, hb, _⟩ := hp2; exact hb
    by_cases h200 : 200 < n
    · have h200' : (200 : Int) < n := by omega
      clear hp2
      go_wp2_with fail
      go_ret
      exact ⟨rfl, hb2⟩
    · have hn200 : n ≤ 200 := by omega
      have h200' : (n : Int) ≤ 200 := by omega
      have HP := Lib.hid (hp2.congr fun j hj => (lastR_zero hj).symm)
      clear hp2 hb2 h5 h200 hb1
      go_wp2_with fail
      go_loopw [6] (fun i wr => ∃ r : Nat, r ≤ n ∧ i = .int .i64 ((n : Int) - 1 - r) ∧ OwnHp w wr h n r (lastR n r) f) (fun i _ => (intOf i + 1).toNat)
      case atStart => exact ⟨0, by omega, by simp, HP.out⟩
      case round =>
        obtain ⟨r, hr, rfl, hp⟩ := hrel
        clear HP
        by_cases hlt : r < n
        · have hx : Hid ((n : Int) - 1 - r = ((n - 1 - r : Nat) : Int)) := by
            show (n : Int) - 1 - r = ((n - 1 - r : Nat) : Int)
            omega
          rw [hx.out]
          obtain ⟨q, hq⟩ : ∃ q, q = n - 1 - r := ⟨_, rfl⟩
          rw [← hq]
          have hqn : q < n := by omega
          obtain ⟨ad, hA, hadb, hc⟩ := HV.out q hqn
          subst hA
          have hb0 : Below w.heap.size w wr := by obtain ⟨S, _, hb, _⟩ := hp; exact hb
          have hc' : wr.cell? (ad.add q) = some (.int .i64 (f q)) := (hb0.cell (by rw [block_of_add]; exact hadb)).trans hc
          have HP := Lib.hid hp
          have HQ := Lib.hid hq
          clear hp hc hb0 hq
          go_wp2_with fail
          have hcall := HP.out.put (i := q) _ (f q) rfl hqn
          refine hcall.mono ?_
          clear hcall
          rintro e w3 ⟨rfl, hp3⟩
          have e1 : lastR n r q = false := by unfold lastR; simp; have := HQ.out; omega
          rw [e1, upd_self] at hp3
          have e2 : upd (lastR n r) q true = lastR n (r + 1) := by rw [HQ.out]; exact lastR_put hlt
          rw [e2] at hp3
          have HP3 := Lib.hid hp3
          clear hp3 e1 e2 hc'
          go_wp2_with fail
          go_roundw
          case rel =>
            refine ⟨r + 1, by omega, ?_, HP3.out⟩
            have e3 : (q : Int) - 1 = (n : Int) - 1 - ((r + 1 : Nat) : Int) := by have := HQ.out; omega
            rw [e3]
          case measure => simp [intOf]
        · have e : r = n := by omega
          subst e
          have HP := Lib.hid (show Sorting w wr h r 0 f (-1) from ⟨_, hp, .inl rfl⟩)
          clear hp
          go_wp2_with fail
          go_loopw [7, 8] (fun last i wr => ∃ k : Nat, k ≤ r ∧ i = .int .i64 k ∧ ∃ l, last = .int .i64 l ∧ Sorting w wr h r k f l) (fun _ i _ => r - (intOf i).toNat)
          case atStart => exact ⟨0, by omega, rfl, -1, rfl, HP.out⟩
          case round =>
            obtain ⟨k, hk, rfl, l, rfl, has, hp, hl⟩ := hrel
            clear HP
            by_cases hlt : k < r
            · have HPk := Lib.hid hp
              have HL := Lib.hid hl
              clear hp hl
              go_wp2_with fail
              have hcall := HPk.out.min (by omega)
              refine hcall.mono ?_
              clear hcall
              rintro e w3 ⟨i, rfl, hleast, hp3⟩
              have hi : i < r := hleast.1
              have hi' : (i : Int) < r := by omega
              obtain ⟨ad, hA, hadb, hc⟩ := HV.out i hi
              have hb0 : Below w.heap.size w w3 := by obtain ⟨S, _, hb, _⟩ := hp3; exact hb
              have hc' : w3.cell? (ad.add i) = some (.int .i64 (f i)) := (hb0.cell (by rw [block_of_add]; exact hadb)).trans hc
              have HP3 := Lib.hid hp3
              have HLS := Lib.hid hleast
              clear hp3 hleast hc hb0
              subst hA
              go_wp2_with fail
              have hcall := HP3.out.drop (i := i) _ rfl hi HLS.out.2.1
              refine hcall.mono ?_
              clear hcall
              rintro e w4 ⟨rfl, hp4⟩
              have hb4 : Below w.heap.size w w4 := by obtain ⟨S, _, hb, _⟩ := hp4; exact hb
              have HNX : Hid (Sorting w w4 h r (k + 1) f i) := by
                refine ⟨upd has i false, hp4.congr fun j hj => rfl, .inr ⟨i, rfl, hi, fun j hj hhj => ?_⟩⟩
                by_cases e : j = i
                · subst e; rw [upd_same] at hhj; cases hhj
                · rw [upd_other _ _ e] at hhj
                  exact HLS.out.2.2 j hj hhj
              have hno : ∀ l : Nat, (∀ j, j < r → has j = true → ¬ AheadP f j l) → f l < f i ∨ f l = f i ∧ l ≤ i := fun l hall => by
                have := hall i hi HLS.out.2.1
                unfold AheadP at this
                omega
              have HNO := Lib.hid hno
              clear hp4 hc' hno
              rcases HL.out with hl | ⟨m, hl, hm, hall⟩
              · subst hl
                clear hb4
                go_wp2_with fail
                go_roundw
                case rel => exact ⟨k + 1, by omega, by go_num, i, rfl, HNX.out⟩
                case measure => simp [intOf]; omega
              · subst hl
                obtain ⟨ad', hA', hadb', hcl⟩ := HV.out m hm
                have hcl' : w4.cell? (ad'.add m) = some (.int .i64 (f m)) := (hb4.cell (by rw [block_of_add]; exact hadb')).trans hcl
                injection hA' with hA'
                subst hA'
                have hm' : (m : Int) < r := by omega
                rcases HNO.out m hall with h1 | ⟨h1, h2⟩
                · have h2 : ¬ f i < f m := by omega
                  have h3 : (f i == f m) = false := by simp; omega
                  clear hb4 hcl hall
                  go_wp2_with fail
                  go_roundw
                  case rel => exact ⟨k + 1, by omega, by go_num, i, rfl, HNX.out⟩
                  case measure => simp [intOf]; omega
                · have h3 : decide (f i < f m) = false := by simp; omega
                  have h4 : (f i == f m) = true := by simp; omega
                  have h5 : decide ((i : Int) < m) = false := by simp; omega
                  have h6 : decide (i < m) = false := by simp; omega
                  clear hb4 hcl hall h1
                  go_wp2_with fail
                  go_roundw
                  case rel => exact ⟨k + 1, by omega, by go_num, i, rfl, HNX.out⟩
                  case measure => simp [intOf]; omega
            · have hb3 : Below w.heap.size w wr := by obtain ⟨S, _, hb, _⟩ := hp; exact hb
              have HPk := Lib.hid hp
              clear hp hl
              have ek : k = r := by omega
              subst ek
              go_wp2_with fail
              have hcall := HPk.out.len
              refine hcall.mono ?_
              clear hcall
              rintro e w3 ⟨rfl, rfl⟩
              rw [Nat.sub_self]
              go_wp2_with fail
              go_ret
              exact ⟨rfl, hb3⟩

end Go.Proofs.Ytjijpcjbigdgjaa

/- BellLeast: any way from a node to the one is at least as long as it thinks, in the end. For all arguments; no condition. -/
import Derived.Test.YtjijpcjbigdgjaaBellFixed
namespace Go.Proofs.Ytjijpcjbigdgjaa
open Go.RowKit
set_option linter.unusedVariables false

theorem addZero (a : Addr) : a.add 0 = a := by unfold Addr.add; simp

theorem way_edge {n m : Nat} {a b c : Nat → Int} (hr : Right n m a b c) {u v : Int} (hu : 0 ≤ u) (hv : 0 ≤ v) (h0 : costV m a b c u v ≠ 0) (h1 : costV m a b c u v ≠ 16) : Edge m a b c u.toNat v.toNat (costV m a b c u v) := by
  obtain ⟨p, rfl⟩ : ∃ p : Nat, u = p := ⟨u.toNat, by omega⟩
  obtain ⟨q, rfl⟩ : ∃ q : Nat, v = q := ⟨v.toNat, by omega⟩
  rcases costV_cases hr p q with ⟨-, e⟩ | ⟨-, e, -⟩ | ⟨-, he⟩
  · exact absurd e h0
  · exact absurd e h1
  · simpa using he

theorem way_least {n m t : Nat} {a b c : Nat → Int} (hr : Right n m a b c) (ht : t < n) {k : Nat} {f : Nat → Int} (hw : WayOk n m a b c k f) (hl : f (k - 1) = t) :
    ∀ j, j + 1 ≤ k → endF t a b c m (f (k - 1 - j)).toNat + wayLen m a b c f (k - j) ≤ wayLen m a b c f k
  | 0, _ => by
    rw [Nat.sub_zero, Nat.sub_zero, hl]
    have h1 := (end_fixed (t := t) hr t ht).1
    simp only [startF, if_pos] at h1
    rw [Int.toNat_natCast]
    omega
  | j + 1, hj => by
    have ih := way_least hr ht hw hl j (by omega)
    obtain ⟨i, hi⟩ : ∃ i, k - 1 - (j + 1) = i := ⟨_, rfl⟩
    have e1 : k - 1 - j = i + 1 := by omega
    have e2 : k - j = i + 2 := by omega
    have e3 : k - (j + 1) = i + 1 := by omega
    rw [hi, e3]
    rw [e1, e2] at ih
    obtain ⟨hk, hin, hco⟩ := hw
    obtain ⟨h0, h1⟩ := hco i (by omega)
    have hu := (hin i (by omega)).1
    have hv := (hin (i + 1) (by omega)).1
    have he := way_edge hr hu hv h0 h1
    have h2 := (end_fixed (t := t) hr (f i).toNat (by have := hin i (by omega); omega)).2.1 _ _ he
    have h3 : wayLen m a b c f (i + 2) = wayLen m a b c f (i + 1) + costV m a b c (f i) (f (i + 1)) := by
      show _ + _ = _
      rw [if_neg (by omega)]
      rfl
    omega

theorem way_first {n m t : Nat} {a b c : Nat → Int} (hr : Right n m a b c) (ht : t < n) {k : Nat} {f : Nat → Int} (hw : WayOk n m a b c k f) (hl : f (k - 1) = t) : endF t a b c m (f 0).toNat ≤ wayLen m a b c f k := by
  have hk := hw.1
  have h := way_least hr ht hw hl (k - 1) (by omega)
  rw [Nat.sub_self, show k - (k - 1) = 1 by omega] at h
  have : wayLen m a b c f 1 = 0 := rfl
  omega

set_option maxRecDepth 100000 in
set_option maxHeartbeats 2000000 in
theorem bellLeast_walk (x : Int) (A : Option Addr) (m cp : Nat) (a b c : Nat → Int) (y : Int) (F : Option Addr) (k ck : Nat) (f : Nat → Int) (w : World) (hl : Lnk w A m a b c) (hm : m ≤ 9223372036854775807) (hf : Vec w F k f) (hk : k ≤ 140737488351232) :
    Calls Try.prog 12 #[.int .i64 x, .slice A m cp, .int .i64 y, .slice F k ck] w fun e w' => e = .returned (.bool true) ∧ Below w.heap.size w w' := by
  have HL := Lib.hid hl
  have HF := Lib.hid hf
  clear hl hf
  go_enter Try.func12, Try.ntmps12
  go_wp2_with fail
  refine (rounded_walk w).mono ?_
  rintro e w1 ⟨rfl, hb1⟩
  have HB1 := Lib.hid hb1
  clear hb1
  go_wp2_with fail
  rcases bellRun_bad_aux x y m a b c with ⟨hg, h0, h1⟩ | ⟨v, -, hf⟩
  · obtain ⟨n, rfl, hn1, hn8, hr⟩ := good_nat hg
    obtain ⟨t, rfl⟩ : ∃ t : Nat, y = t := ⟨y.toNat, by omega⟩
    have ht : t < n := by omega
    have hn8' : (n : Int) ≤ 8 := by omega
    have HG := Lib.hid hg
    have HR := Lib.hid hr
    clear hg hr h0 h1
    have hcall := bellRun_ok n t n t rfl rfl A m cp a b c w1 (HL.out.keep HB1.out) hm HG.out ht
    refine hcall.mono ?_
    clear hcall
    rintro e w2 ⟨g, q, rfl, -, hrow, htk, hb2⟩
    have HD := Lib.hid hrow
    have HB2 := Lib.hid (keep HB1.out hb2)
    clear hrow htk hb2 HB1
    go_wp2_with fail
    have hcall := lengthOf_walk n A m cp a b c F k ck f w2 (HL.out.keep HB2.out) hm (HF.out.keep HB2.out) hk
    refine hcall.mono ?_
    clear hcall
    rintro e w3 ⟨s, ok, rfl, htold, q3, rfl⟩
    have HT := Lib.hid htold
    clear htold
    cases ok
    · go_wp2_with fail
      go_ret
      exact ⟨rfl, below_drewN HB2.out _⟩
    · have HW : Hid (WayOk n m a b c k f) := HT.out.1.1 rfl
      obtain ⟨p, hp⟩ : ∃ p, k = p + 1 := ⟨k - 1, by have := HW.out.1; omega⟩
      have hk1 : (1 : Int) ≤ k := by omega
      have hk0 : 0 < k := by omega
      have hk2 : (k : Int) ≤ 140737488351232 := by omega
      have hp0 : (0 : Int) ≤ (k : Int) - 1 := by omega
      have hp1 : ((k : Int) - 1).toNat = p := by omega
      have hpk : p < k := by omega
      have HP := Lib.hid hp
      clear hp
      obtain ⟨fd, rfl, hfl, hfp⟩ := HF.out p hpk
      have hcp := (HB2.out.cell (by rw [block_of_add]; exact hfl)).trans hfp
      obtain ⟨fd', e, -, hf0⟩ := HF.out 0 hk0
      injection e with e
      subst e
      have hc0 := (HB2.out.cell (by rw [block_of_add]; exact hfl)).trans hf0
      rw [addZero] at hc0
      clear hfp hf0 hfl
      by_cases hlast : f p = t
      · have HLST : Hid (f (k - 1) = t) := by
          have e : k - 1 = p := by have := HP.out; omega
          show f (k - 1) = t
          rw [e]; exact hlast
        rw [hlast] at hcp
        obtain ⟨z, hz⟩ : ∃ z : Nat, f 0 = z := ⟨(f 0).toNat, by have := HW.out.2.1 0 hk0; omega⟩
        have hzn : z < n := by have := HW.out.2.1 0 hk0; omega
        have hle : endF t a b c m z ≤ s := by
          have h1 := way_first HR.out ht HW.out HLST.out
          rw [hz, Int.toNat_natCast] at h1
          rw [HT.out.2.2 rfl HG.out]
          exact h1
        rw [hz] at hc0
        have hcz := HD.out.cell hzn
        have hzn' : (z : Int) < n := by omega
        clear hlast hz
        go_wp2_with fail
        go_ret
        exact ⟨rfl, below_drewN HB2.out _⟩
      · have hd : (f p == (t : Int)) = false := beq_false_of_ne hlast
        have hd' : (f p != (t : Int)) = true := bne_iff_ne.2 hlast
        clear hlast
        go_wp2_with fail
        go_ret
        exact ⟨rfl, below_drewN HB2.out _⟩
  · have HFR := Lib.hid hf
    clear hf
    refine (bellRun_bad x y A m cp a b c w1 (HL.out.keep HB1.out) hm v HFR.out).mono ?_
    rintro e w2 ⟨rfl, hb2⟩
    have HB2 := Lib.hid (keep HB1.out hb2)
    clear hb2 HB1
    go_wp2_with fail
    have hcall := lengthOf_walk x A m cp a b c F k ck f w2 (HL.out.keep HB2.out) hm (HF.out.keep HB2.out) hk
    refine hcall.mono ?_
    clear hcall
    rintro e w3 ⟨s, ok, rfl, -, q3, rfl⟩
    go_wp2_with fail
    go_ret
    exact ⟨rfl, below_drewN HB2.out _⟩

end Go.Proofs.Ytjijpcjbigdgjaa

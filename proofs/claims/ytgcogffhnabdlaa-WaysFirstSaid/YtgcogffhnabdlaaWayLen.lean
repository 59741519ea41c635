/- ways.Length, Compared: the walks. -/
import Derived.Test.YtgcogffhnabdlaaWayCmp
namespace Go.Proofs.Ytgcogffhnabdlaa
open Go.RowKit
set_option linter.unusedVariables false

set_option maxRecDepth 100000 in
set_option maxHeartbeats 1000000 in
theorem wayLength_bad (x : Int) (A : Option Addr) (m cp : Nat) (a b c : Nat → Int) (F : Option Addr) (k ck : Nat) (w : World) (hl : Lnk w A m a b c) (hm : m ≤ 9223372036854775807) (v : Int) (h : FaultG x m a b c v) :
    Calls Try.prog 7 #[.int .i64 x, .slice A m cp, .slice F k ck] w fun e w' => e = .returned (.tuple #[.int .i64 0, errNo v]) ∧ Below w.heap.size w w' := by
  have HL := Lib.hid hl
  have HF := Lib.hid h
  clear hl h
  go_enter Try.func7, Try.ntmps7
  go_wp2_with fail
  refine (costs_bad x A m cp a b c w HL.out hm v HF.out).mono ?_
  rintro e w1 ⟨rfl, hb1⟩
  go_wp2_with fail
  go_ret2
  exact ⟨rfl, hb1⟩

set_option maxRecDepth 100000 in
set_option maxHeartbeats 4000000 in
theorem wayLength_ok (n : Nat) (x : Int) (hx : x = (n : Int)) (A : Option Addr) (m cp : Nat) (a b c : Nat → Int) (F : Option Addr) (k ck : Nat) (f : Nat → Int) (w : World) (hl : Lnk w A m a b c) (hm : m ≤ 9223372036854775807) (hg : GoodG x m a b c) (hf : Vec w F k f) (hk : k ≤ 140737488351232) :
    Calls Try.prog 7 #[.int .i64 x, .slice A m cp, .slice F k ck] w fun e w' =>
      ((WayOk x m a b c k f ∧ e = .returned (.tuple #[.int .i64 (wayLen m a b c f k), .nilIface])) ∨ (¬ WayOk x m a b c k f ∧ e = .returned (.tuple #[.int .i64 0, errNo 3]))) ∧ Below w.heap.size w w' := by
  subst hx
  have h1 : 1 ≤ n := by have := hg.1; omega
  have h8 : n ≤ 8 := by have := hg.2.1; omega
  have hR : Right n m a b c := by simpa using hg.2.2
  have h8' : (n : Int) ≤ 8 := by omega
  have hk2 : (k : Int) ≤ 140737488351232 := by omega
  have HL := Lib.hid hl
  have HG := Lib.hid hg
  have HR := Lib.hid hR
  have HF0 := Lib.hid hf
  clear hl hg hR hf
  go_enter Try.func7, Try.ntmps7
  go_wp2_with fail
  have hcall := costs_ok n n rfl A m cp a b c w HL.out hm HG.out
  refine hcall.mono ?_
  clear hcall
  rintro e w2 ⟨g, cg, B, C, rfl, -, hat, hb2⟩
  obtain ⟨g', cg', e, -, hgl, hgc, -⟩ := hat.cells h1
  have eg : g = g' := by
    simp only [Value.slice.injEq, Option.some.injEq, Addr.mk.injEq] at e
    exact e.1.1
  subst eg
  have HGC := Lib.hid hgc
  have HGL := Lib.hid hgl
  have HAT := Lib.hid hat
  have HF := Lib.hid (HF0.out.keep hb2)
  have HB2 := Lib.hid hb2
  clear hat hgc hgl e hb2
  by_cases h0 : k = 0
  · subst h0
    go_wp2_with fail
    go_ret2
    exact ⟨.inr ⟨fun h => absurd h.1 (by omega), rfl⟩, HB2.out⟩
  · have hk1 : (1 : Int) ≤ k := by omega
    have hk0 : ((k : Int) == 0) = false := beq_false_of_ne (by omega)
    have hk00 : (k == 0) = false := beq_false_of_ne h0
    go_wp2_with fail
    go_loopw [10, 29] (fun v i wr => ∃ (r : Nat), r ≤ k ∧ i = .int .i64 r ∧ v = .int .i64 (wayLen m a b c f r) ∧ Hid (∀ j, j < r → 0 ≤ f j ∧ f j < n) ∧ Hid (∀ j, j + 1 < r → costV m a b c (f j) (f (j + 1)) ≠ 0 ∧ costV m a b c (f j) (f (j + 1)) ≠ 16) ∧ ∃ q, wr = w2.drewN q) (fun _ i _ => k - (intOf i).toNat)
    case atStart => exact ⟨0, by omega, rfl, rfl, Lib.hid fun j hj => absurd hj (by omega), Lib.hid fun j hj => absurd hj (by omega), 0, rfl⟩
    case round =>
      obtain ⟨r, hr, rfl, rfl, HIN, HCO, q, rfl⟩ := hrel
      have hwl := wayLen_ranged HG.out HIN.out r (Nat.le_refl _)
      by_cases hlt : r < k
      · have hlt' : (r : Int) < k := by omega
        obtain ⟨fd, rfl, hfl, hfc⟩ := HF.out r hlt
        obtain ⟨s, hs⟩ : ∃ s, wayLen m a b c f r = s := ⟨_, rfl⟩
        have HS := Lib.hid hs
        rw [hs] at hwl ⊢
        clear hs
        rcases (show f r < 0 ∨ (0 ≤ f r ∧ (n : Int) ≤ f r) ∨ (0 ≤ f r ∧ f r < n) by omega) with hbad | hbad | hin
        · have HNO : Hid (¬ WayOk n m a b c k f) := fun h => by have := h.2.1 r hlt; omega
          go_wp2_with fail
          go_ret2
          exact ⟨.inr ⟨HNO.out, rfl⟩, below_drewN HB2.out _⟩
        · have HNO : Hid (¬ WayOk n m a b c k f) := fun h => by have := h.2.1 r hlt; omega
          obtain ⟨hb0, hb1⟩ := hbad
          go_wp2_with fail
          go_ret2
          exact ⟨.inr ⟨HNO.out, rfl⟩, below_drewN HB2.out _⟩
        · obtain ⟨hi0, hi1⟩ := hin
          have HIN1 : Hid (∀ j, j < r + 1 → 0 ≤ f j ∧ f j < n) := fun j hj => by
            rcases Nat.lt_or_ge j r with h | h
            · exact HIN.out j h
            · obtain rfl : j = r := by omega
              exact ⟨hi0, hi1⟩
          obtain ⟨v, hv⟩ : ∃ v : Nat, f r = v := ⟨(f r).toNat, by omega⟩
          have HV := Lib.hid hv
          have hvn : v < n := by omega
          rw [hv] at hfc
          clear hv hi0 hi1
          have hvn' : (v : Int) < n := by omega
          by_cases hr0 : r = 0
          · have HR0 := Lib.hid hr0
            have hd0 : ((r : Int) == 0) = true := by simp [hr0]
            have hd00 : (r == 0) = true := by simp [hr0]
            have HS1 : Hid (wayLen m a b c f (r + 1) = s) := by
              show _ + _ = _
              rw [if_pos HR0.out, HS.out]
              omega
            clear hfl hr0
            go_wp2_with fail
            go_roundw
            case rel => exact ⟨r + 1, by omega, by go_num, by rw [HS1.out], HIN1, Lib.hid (fun j hj => absurd hj (by have := HR0.out; omega)), q, rfl⟩
            case measure => simp [intOf]; omega
          · obtain ⟨p, hrp⟩ : ∃ p, r = p + 1 := ⟨r - 1, by omega⟩
            obtain ⟨fd', e, -, hpc⟩ := HF.out p (by omega)
            injection e with e
            subst e
            have hpin := HIN.out p (by omega)
            obtain ⟨u, hu⟩ : ∃ u : Nat, f p = u := ⟨(f p).toNat, by omega⟩
            have hun : u < n := by omega
            rw [hu] at hpc
            have hun' : (u : Int) < n := by omega
            obtain ⟨cv, hcv⟩ : ∃ cv, costF m a b c u v = cv := ⟨_, rfl⟩
            have HCV : Hid (costV m a b c (f p) (f r) = cv) := by rw [hu, HV.out]; exact hcv
            have hcr := costV_ranged HR.out u v
            have hcr1 : 0 ≤ cv ∧ cv ≤ 16 := by rw [← hcv]; exact hcr
            have cg0 := HGC.out u hun
            have cr := ((HAT.out.row u hun).2).cell hvn
            rw [hcv] at cr
            have hd0 : ((r : Int) == 0) = false := beq_false_of_ne (by omega)
            have hd00 : (r == 0) = false := beq_false_of_ne hr0
            have hr1 : (0 : Int) < r := by omega
            have hp0 : (0 : Int) ≤ (r : Int) - 1 := by omega
            have hp2 : (r : Int) - 1 < k := by omega
            have hp1 : ((r : Int) - 1).toNat = p := by omega
            have HRP := Lib.hid hrp
            clear hcv hfl hr0 hrp hu hpin hcr
            have HCO1 : cv ≠ 0 ∧ cv ≠ 16 → Hid (∀ j, j + 1 < r + 1 → costV m a b c (f j) (f (j + 1)) ≠ 0 ∧ costV m a b c (f j) (f (j + 1)) ≠ 16) := fun h j hj => by
              rcases Nat.lt_or_ge (j + 1) r with h' | h'
              · exact HCO.out j h'
              · have e1 : j = p := by have := HRP.out; omega
                have e2 : j + 1 = r := by have := HRP.out; omega
                rw [e2, e1, HCV.out]
                exact h
            have HNO : ¬ (cv ≠ 0 ∧ cv ≠ 16) → Hid (¬ WayOk n m a b c k f) := fun h hw => by
              have h1 := hw.2.2 p (by have := HRP.out; omega)
              have e2 : p + 1 = r := HRP.out.symm
              rw [e2, HCV.out] at h1
              exact h h1
            have HS1 : Hid (wayLen m a b c f (r + 1) = s + cv) := by
              show _ + _ = _
              rw [if_neg (by have := HRP.out; omega), HS.out, ← HCV.out]
              have e : r - 1 = p := by have := HRP.out; omega
              rw [e]
            by_cases hc0 : cv = 0
            · have HN := HNO (fun h => h.1 hc0)
              subst hc0
              clear HCO1 HNO
              go_wp2_with fail
              go_ret2
              exact ⟨.inr ⟨HN.out, rfl⟩, below_drewN HB2.out _⟩
            · by_cases hc1 : cv = 16
              · have HN := HNO (fun h => h.2 hc1)
                subst hc1
                clear HCO1 HNO
                go_wp2_with fail
                go_ret2
                exact ⟨.inr ⟨HN.out, rfl⟩, below_drewN HB2.out _⟩
              · have HC1 := HCO1 ⟨hc0, hc1⟩
                have hd1 : (cv == 0) = false := beq_false_of_ne hc0
                have hd2 : (cv == 16) = false := beq_false_of_ne hc1
                clear hc0 hc1 HCO1 HNO
                go_wp2_with fail
                go_roundw
                case rel => exact ⟨r + 1, by omega, by go_num, by rw [HS1.out], HIN1, HC1, _, rfl⟩
                case measure => simp [intOf]; omega
      · have er : r = k := by omega
        subst er
        have HOK : Hid (WayOk n m a b c r f) := ⟨by omega, HIN.out, HCO.out⟩
        go_wp2_with fail
        go_ret2
        exact ⟨.inl ⟨HOK.out, rfl⟩, below_drewN HB2.out _⟩

set_option maxRecDepth 100000 in
set_option maxHeartbeats 4000000 in
theorem compared_walk (A B : Option Addr) (n m ca cb : Nat) (f g : Nat → Int) (w : World) (hA : Vec w A n f) (hB : Vec w B m g) (hn : n ≤ 140737488351232) (hm : m ≤ 140737488351232) :
    Calls Try.prog 8 #[.slice A n ca, .slice B m cb] w fun e w' => ∃ r, e = .returned (.int .i64 r) ∧ CmpT n m f g r ∧ ∃ q, w' = w.drewN q := by
  have HA := Lib.hid hA
  have HB := Lib.hid hB
  have hn' : (n : Int) ≤ 140737488351232 := by omega
  have hm' : (m : Int) ≤ 140737488351232 := by omega
  clear hA hB
  go_enter Try.func8, Try.ntmps8
  go_wp2_with fail
  go_loopw [5] (fun i wr => ∃ r : Nat, r ≤ n ∧ r ≤ m ∧ i = .int .i64 r ∧ Hid (∀ j, j < r → f j = g j) ∧ ∃ q, wr = w.drewN q) (fun i _ => n - (intOf i).toNat)
  case atStart => exact ⟨0, by omega, by omega, rfl, Lib.hid fun j hj => absurd hj (by omega), 0, rfl⟩
  case round =>
    obtain ⟨r, hrn, hrm, rfl, HE, q, rfl⟩ := hrel
    by_cases h1 : r < n
    · have h1' : (r : Int) < n := by omega
      obtain ⟨fa, rfl, hfa0, hfa⟩ := HA.out r h1
      by_cases h2 : r < m
      · have h2' : (r : Int) < m := by omega
        obtain ⟨fb, rfl, hfb0, hfb⟩ := HB.out r h2
        clear hfa0 hfb0
        obtain ⟨u, hu⟩ : ∃ u, f r = u := ⟨_, rfl⟩
        obtain ⟨v, hv⟩ : ∃ v, g r = v := ⟨_, rfl⟩
        rw [hu] at hfa
        rw [hv] at hfb
        have HU := Lib.hid hu
        have HV := Lib.hid hv
        clear hu hv
        rcases (show u < v ∨ v < u ∨ u = v by omega) with h | h | h
        · have e1 : decide (u < v) = true := decide_eq_true h
          go_wp2_with fail
          go_quiet (fail)
          go_wp2_with fail
          go_ret
          exact ⟨_, rfl, .inl ⟨r, h1, h2, HE.out, by rw [HU.out, HV.out]; exact h, rfl⟩, by simp only [World.drewN_drewN]; exact ⟨_, rfl⟩⟩
        · have e1 : decide (u < v) = false := decide_eq_false (by omega)
          have e2 : decide (v < u) = true := decide_eq_true h
          go_wp2_with fail
          go_quiet (fail)
          go_wp2_with fail
          go_quiet (fail)
          go_wp2_with fail
          go_ret
          exact ⟨_, rfl, .inr (.inl ⟨r, h1, h2, HE.out, by rw [HU.out, HV.out]; exact h, rfl⟩), by simp only [World.drewN_drewN]; exact ⟨_, rfl⟩⟩
        · subst h
          have HE1 : Hid (∀ j, j < r + 1 → f j = g j) := fun j hj => by
            rcases Nat.lt_or_ge j r with h | h
            · exact HE.out j h
            · obtain rfl : j = r := by omega
              exact HU.out.trans HV.out.symm
          go_wp2_with fail
          go_quiet (fail)
          go_wp2_with fail
          go_quiet (fail)
          go_wp2_with fail
          go_roundw
          case rel => exact ⟨r + 1, by omega, by omega, by go_num, HE1, _, rfl⟩
          case measure => simp [intOf]; omega
      · have er : r = m := by omega
        subst er
        go_wp2_with fail
        go_ret
        exact ⟨_, rfl, .inr (.inr ⟨fun j _ hj => HE.out j hj, rfl⟩), q, rfl⟩
    · have er : r = n := by omega
      subst er
      go_wp2_with fail
      go_ret
      exact ⟨_, rfl, .inr (.inr ⟨fun j hj _ => HE.out j hj, rfl⟩), q, rfl⟩

end Go.Proofs.Ytgcogffhnabdlaa

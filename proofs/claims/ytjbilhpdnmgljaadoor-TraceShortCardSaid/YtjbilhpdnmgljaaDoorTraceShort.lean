/- TraceShort: the walk. -/
import Derived.Test.YtjbilhpdnmgljaaDoorTraceTells
import Derived.Test.YtjbilhpdnmgljaaDoorOnce
namespace Go.Proofs.YtjbilhpdnmgljaaDoor
open Go.RowKit
set_option linter.unusedVariables false

theorem trGo_errs {p : Nat → Int} {y : Int} {t : Nat} {v : Int} : ∀ (q k : Nat), trGo p y t q k = .error v → v = 2 ∨ v = 4
  | 0, k, h => by injection h with h; omega
  | q + 1, k, h => by
    by_cases h0 : p k = y
    · rw [trGo_here h0] at h; cases h
    · by_cases h1 : p (k + 1) < 0
      · rw [trGo_none h0 h1] at h; injection h with h; omega
      · by_cases h2 : t ≤ k
        · rw [trGo_full h0 h1 h2] at h; injection h with h; omega
        · rw [trGo_next h0 h1 h2] at h; exact trGo_errs q (k + 1) h

section
variable {n : Nat} {L : Nat → Nat} {f : Nat → Nat → Int} {x y t t' k : Nat}
/-- With more steps it goes the same way. -/
theorem trRes_more (h : trRes f x y t = .ok k) (ht : t ≤ t') : trRes f x y t' = .ok k := by
  obtain ⟨-, h1, h2, h3⟩ := trGo_ok _ _ _ h
  exact trGo_of_ok _ 0 (Nat.zero_le _) (Nat.le_trans (h3 (Nat.zero_le _)) ht) (by omega) h1 h2
theorem trRes_once (h : trRes f x y t = .ok k) : OnceV (k + 1) (posT f x y) := by
  obtain ⟨-, h1, h2, -⟩ := trGo_ok _ _ _ h
  intro i hi j hj
  exact posT_once h1 (fun j hj => (h2 j (Nat.zero_le _) hj).1) hj (by omega)
theorem trRes_never (hr : ∀ i, i < n → RowOk n L f i) (hx : x < n) (hy : y < n) (h : trRes f x y t = .error 4) (hn : n ≤ t) : trRes f x y t' = .error 4 := by
  have h1 := trGo_err4 _ _ (by omega) (Nat.zero_le _) h
  have h2 := posT_never hr hx hy hn fun j hj => h1 j (Nat.zero_le _) hj
  exact trGo_of_err4 _ 0 (Nat.zero_le _) (by omega) fun j _ _ => h2 j
end

attribute [local go_sem high] run_min_pair run_max_pair

set_option maxRecDepth 100000 in
set_option maxHeartbeats 4000000 in
theorem traceShort_walk (A : Option Addr) (n cA : Nat) (L : Nat → Nat) (f : Nat → Nat → Int) (x y t z : Int) (w : World) (hg : ErrT w) (hm : Mat w A n L f) (hn : n ≤ 9223372036854775807) (hL : ∀ i, i < n → L i ≤ 9223372036854775807) :
    Calls Tryd.prog 5 #[.slice A n cA, .int .i64 x, .int .i64 y, .int .i64 t, .int .i64 z] w fun e w' => e = .returned (.bool true) ∧ Below w.heap.size w w' := by
  have HM := Lib.hid hm
  have HG := Lib.hid hg
  have HL := Lib.hid hL
  clear hm hg hL
  go_enter Tryd.func5, Tryd.ntmps5
  go_wp2_with fail
  refine (traced_walk w).mono ?_
  rintro e w1 ⟨rfl, hb1⟩
  have HB1 := Lib.hid hb1
  clear hb1
  go_wp2_with fail
  rcases trace_cases n L f x y t with hgood | ⟨v, hv, hf⟩
  · have HGT := Lib.hid hgood
    obtain ⟨X, rfl⟩ : ∃ X : Nat, x = X := ⟨x.toNat, by have := hgood.2.1; omega⟩
    obtain ⟨Y, rfl⟩ : ∃ Y : Nat, y = Y := ⟨y.toNat, by have := hgood.2.2.2.1; omega⟩
    obtain ⟨T, rfl⟩ : ∃ T : Nat, t = T := ⟨t.toNat, by have := hgood.2.2.2.2.2.1; omega⟩
    have hXn : X < n := by have := hgood.2.2.1; omega
    have hYn : Y < n := by have := hgood.2.2.2.2.1; omega
    have hT255 : T ≤ 255 := by have := hgood.2.2.2.2.2.2; omega
    have hTI : (T : Int) ≤ 255 := by omega
    clear hgood
    have hcall := trace_good A n cA L f X Y T X Y T rfl rfl rfl w1 (HM.out.keep HB1.out) hn HGT.out.1 hXn hYn hT255
    refine hcall.mono ?_
    clear hcall
    rintro e w2 hto
    rcases hto with ⟨k, g, c, hk, rfl, hown, hb⟩ | ⟨v, hv, rfl, hb⟩
    · have hkT : k ≤ T := (trGo_ok _ _ _ hk).2.2.2 (Nat.zero_le _)
      have hkTI : (k : Int) ≤ 255 := by omega
      have HK := Lib.hid hk
      have HO := Lib.hid hown
      have HB2 := Lib.hid (keep HB1.out hb)
      clear hk hown hb HB1
      obtain ⟨T2, hT2⟩ : ∃ T2 : Nat, max (T : Int) (min z 255) = T2 := ⟨(max (T : Int) (min z 255)).toNat, by omega⟩
      have hT2a : T ≤ T2 := by omega
      have hT2b : T2 ≤ 255 := by omega
      have HT2 := Lib.hid hT2
      clear hT2
      go_wp2_with fail
      have hcall := trace_good A n cA L f X Y T2 X Y _ rfl rfl HT2.out w2 (HM.out.keep HB2.out) hn HGT.out.1 hXn hYn hT2b
      refine hcall.mono ?_
      clear hcall
      rintro e w3 hto
      rcases hto with ⟨k', g', c', hk', rfl, hown', hb'⟩ | ⟨v, hv, -, -⟩
      · rw [trRes_more HK.out hT2a] at hk'
        injection hk' with hk'
        subst hk'
        have hcc : k + 1 ≤ c := by
          rcases HO.out.form with ⟨h, _⟩ | ⟨g0, c0, e, -, -, h, -⟩
          · omega
          · injection e with _ _ e
            omega
        obtain ⟨A1, c1, e1, hV1⟩ := (HO.out.below hb').vec
        injection e1 with e1 _ e3
        subst e1 e3
        obtain ⟨A2, c2, e2, hV2⟩ := hown'.vec
        injection e2 with e2 _ e4
        subst e2 e4
        have HV1 := Lib.hid hV1
        have HV2 := Lib.hid hV2
        have HB3 := Lib.hid (keep HB2.out hb')
        clear hown' hb' hV1 hV2 HB2 HO
        go_wp2_with fail
        have hcall := ints_walk (some ⟨g', 0, none⟩) (some ⟨g, 0, none⟩) (k + 1) (k + 1) c' c _ _ w3 HV2.out HV1.out (by omega) (by omega) true ⟨fun _ => ⟨rfl, fun _ _ => rfl⟩, fun _ => rfl⟩
        refine hcall.mono ?_
        clear hcall
        rintro e w4 ⟨rfl, k4, rfl⟩
        go_wp2_with fail
        have hcall := once_walk (some ⟨g, 0, none⟩) (k + 1) c _ (w3.drewN k4) (HV1.out.drewN k4) (by omega) hcc true ⟨fun _ => trRes_once HK.out, fun _ => rfl⟩
        refine hcall.mono ?_
        clear hcall
        rintro e w5 ⟨rfl, k5, rfl⟩
        obtain ⟨a0, e0, -, h0⟩ := HV1.out 0 (by omega)
        injection e0 with e0
        subst e0
        obtain ⟨a1, e1, -, h1⟩ := HV1.out k (by omega)
        injection e1 with e1
        subst e1
        rw [Addr.add_lit, Nat.zero_add] at h0 h1
        have hp0 : posT f X Y 0 = X := rfl
        have hpk : posT f X Y k = Y := (trGo_ok _ _ _ HK.out).2.1
        rw [hp0] at h0
        rw [hpk] at h1
        have hle : k + 1 ≤ T + 1 := by omega
        have hle' : (k : Int) + 1 ≤ (T : Int) + 1 := by omega
        clear hp0 hpk
        go_wp2_with fail
        go_ret
        exact ⟨rfl, below_drewN HB3.out _⟩
      · rw [trRes_more HK.out hT2a] at hv
        cases hv
    · have HK := Lib.hid hv
      have HB2 := Lib.hid (keep HB1.out hb)
      have hv24 := trGo_errs _ _ hv
      clear hv hb HB1
      go_wp2_with fail
      rcases hv24 with rfl | rfl
      · refine (err_no 2 4 false ⟨(fun h => by cases h), fun h => absurd h (by decide)⟩ w2 (HG.out.keep HB2.out)).mono ?_
        rintro e w3 ⟨rfl, hb3⟩
        have HB3 := Lib.hid (keep HB2.out hb3)
        clear hb3 HB2
        go_wp2_with fail
        go_ret
        exact ⟨rfl, HB3.out⟩
      · refine (err_no 4 4 true ⟨fun _ => rfl, fun _ => rfl⟩ w2 (HG.out.keep HB2.out)).mono ?_
        rintro e w3 ⟨rfl, hb3⟩
        have HB3 := Lib.hid (keep HB2.out hb3)
        clear hb3 HB2
        by_cases hTn : T < n
        · have hTn' : (T : Int) < n := by omega
          go_wp2_with fail
          go_ret
          exact ⟨rfl, HB3.out⟩
        · have hd0 : decide (T < n) = false := decide_eq_false hTn
          have hd0' : decide ((T : Int) < n) = false := decide_eq_false (by omega)
          have HTN := Lib.hid (show n ≤ T by omega)
          clear hTn
          rcases (show z < T ∨ ((T : Int) ≤ z ∧ 255 < z) ∨ ((T : Int) ≤ z ∧ z ≤ 255) by omega) with h1 | ⟨h1, h2⟩ | ⟨h1, h2⟩
          · go_wp2_with fail
            go_ret
            exact ⟨rfl, HB3.out⟩
          · go_wp2_with fail
            go_ret
            exact ⟨rfl, HB3.out⟩
          · obtain ⟨Z, rfl⟩ : ∃ Z : Nat, z = Z := ⟨z.toNat, by omega⟩
            have hd1 : decide ((Z : Int) < T) = false := decide_eq_false (by omega)
            have hd2 : decide (Z < T) = false := decide_eq_false (by omega)
            have hd3 : decide ((255 : Int) < Z) = false := decide_eq_false (by omega)
            have hd4 : decide (255 < Z) = false := decide_eq_false (by omega)
            have hZ255 : Z ≤ 255 := by omega
            go_wp2_with fail
            have hcall := trace_good A n cA L f X Y Z X Y Z rfl rfl rfl w3 (HM.out.keep HB3.out) hn HGT.out.1 hXn hYn hZ255
            refine hcall.mono ?_
            clear hcall
            rintro e w4 hto
            rcases hto with ⟨k', g', c', hk', -, -, -⟩ | ⟨v', hv', rfl, hb'⟩
            · rw [trRes_never HGT.out.1 hXn hYn HK.out HTN.out] at hk'
              cases hk'
            · rw [trRes_never HGT.out.1 hXn hYn HK.out HTN.out] at hv'
              injection hv' with hv'
              subst hv'
              have HB4 := Lib.hid (keep HB3.out hb')
              clear hb' HB3
              go_wp2_with fail
              refine (err_no 4 4 true ⟨fun _ => rfl, fun _ => rfl⟩ w4 (HG.out.keep HB4.out)).mono ?_
              rintro e w5 ⟨rfl, hb5⟩
              have HB5 := Lib.hid (keep HB4.out hb5)
              clear hb5 HB4
              go_wp2_with fail
              go_ret
              exact ⟨rfl, HB5.out⟩
  · have HF := Lib.hid hf
    clear hf
    have hcall := trace_fault A n cA L f x y t w1 (HM.out.keep HB1.out) hn HL.out v HF.out
    refine hcall.mono ?_
    clear hcall
    rintro e w3 ⟨rfl, hb3⟩
    have HB3 := Lib.hid (keep HB1.out hb3)
    have hv4 : v ≠ 4 := by omega
    have HV4 := Lib.hid hv4
    clear hb3 HB1 hv hv4
    go_wp2_with fail
    refine (err_no v 4 false ⟨(fun h => by cases h), fun h => absurd h HV4.out⟩ w3 (HG.out.keep HB3.out)).mono ?_
    rintro e w4 ⟨rfl, hb4⟩
    have HB4 := Lib.hid (keep HB3.out hb4)
    clear hb4 HB3
    go_wp2_with fail
    go_ret
    exact ⟨rfl, HB4.out⟩

end Go.Proofs.YtjbilhpdnmgljaaDoor

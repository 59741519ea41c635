/- The walks of bell.Round where it fails, slices.Equal, bell.Run. -/
import Derived.Test.YtlemmphnmklbeaaBell
import Derived.Test.YtlemmphnmklbeaaOwnV
import Derived.Test.YtlemmphnmklbeaaCost
namespace Go.Proofs.Ytlemmphnmklbeaa
open Go.RowKit
set_option linter.unusedVariables false

set_option maxRecDepth 100000 in
set_option maxHeartbeats 1000000 in
theorem equal_walk (A B : Option Addr) (n m ca cb : Nat) (f g : Nat → Int) (w : World) (hA : Vec w A n f) (hB : Vec w B m g) (hn : n ≤ 9223372036854775807) (hm : m ≤ 9223372036854775807) (b : Bool) (hb : b = true ↔ SameV n m f g) :
    Calls Try.prog 29 #[.slice A n ca, .slice B m cb] w fun e w' => e = .returned (.bool b) ∧ ∃ k, w' = w.drewN k := by
  have HA := Lib.hid hA
  have HB := Lib.hid hB
  have HV := Lib.hid hb
  clear hA hB hb
  by_cases hnm : n = m
  · subst hnm
    go_enter Try.func29, Try.ntmps29
    go_wp2_with fail
    go_loopw [13] (fun i wr => ∃ r : Nat, r ≤ n ∧ i = .int .i64 r ∧ Hid (∀ j, j < r → f j = g j) ∧ ∃ k, wr = w.drewN k) (fun i _ => n - (intOf i).toNat)
    case atStart => exact ⟨0, by omega, rfl, Lib.hid (fun j hj => absurd hj (by omega)), 0, rfl⟩
    case round =>
      obtain ⟨r, hr, rfl, hd, k, rfl⟩ := hrel
      have HD := hd
      clear hd
      by_cases hlt : r < n
      · have hlt' : (r : Int) < n := by omega
        obtain ⟨ad, rfl, hal, hac⟩ := HA.out r hlt
        obtain ⟨bd, rfl, hbl, hbc⟩ := HB.out r hlt
        by_cases he : f r = g r
        · have HE := Lib.hid he
          clear he
          rw [HE.out] at hac
          go_wp2_with fail
          go_quiet (fail)
          go_wp2_with fail
          go_roundw
          case rel => exact ⟨r + 1, by omega, by go_num, Lib.hid (fun j hj => by
              rcases Nat.lt_or_ge j r with h | h
              · exact HD.out j h
              · obtain rfl : j = r := by omega
                exact HE.out), _, rfl⟩
          case measure => simp [intOf]; omega
        · have hd : decide (f r = g r) = false := decide_eq_false he
          have hv : b = false := by
            cases b
            · rfl
            · exact absurd ((HV.out.1 rfl).2 r hlt) he
          subst hv
          go_wp2_with fail
          go_quiet (fail)
          go_wp2_with fail
          go_ret
          exact ⟨rfl, _, World.drewN_drewN _ _ _⟩
      · have er : r = n := by omega
        subst er
        have hv : b = true := HV.out.2 ⟨rfl, HD.out⟩
        subst hv
        go_wp2_with fail
        go_ret
        exact ⟨rfl, k, rfl⟩
  · have hv : b = false := by
      cases b
      · rfl
      · exact absurd (HV.out.1 rfl).1 hnm
    subst hv
    have hd : decide ((n : Int) = (m : Int)) = false := by
      apply decide_eq_false
      omega
    go_enter Try.func29, Try.ntmps29
    go_wp2_with fail
    go_ret
    exact ⟨rfl, 0, rfl⟩

/-- What a round asks. -/
def GoodR (x : Int) (m : Nat) (a b c : Nat → Int) (y : Int) (k : Nat) (d : Nat → Int) : Prop := GoodG x m a b c ∧ 0 ≤ y ∧ y < x ∧ (k : Int) = x ∧ RangedV k d

/-- What is wrong with a round's arguments. -/
def FaultR (x : Int) (m : Nat) (a b c : Nat → Int) (y : Int) (k : Nat) (d : Nat → Int) (v : Int) : Prop :=
  FaultG x m a b c v ∨ (GoodG x m a b c ∧ (y < 0 ∨ x ≤ y) ∧ v = 1) ∨ (GoodG x m a b c ∧ 0 ≤ y ∧ y < x ∧ (k : Int) ≠ x ∧ v = 3) ∨ (GoodG x m a b c ∧ 0 ≤ y ∧ y < x ∧ (k : Int) = x ∧ ¬ RangedV k d ∧ v = 1)

theorem round_cases (x : Int) (m : Nat) (a b c : Nat → Int) (y : Int) (k : Nat) (d : Nat → Int) : GoodR x m a b c y k d ∨ ∃ v, (v = 1 ∨ v = 3 ∨ v = 5) ∧ FaultR x m a b c y k d v := by
  rcases graph_cases x m a b c with hg | ⟨v, hv, hf⟩
  · by_cases h1 : 0 ≤ y ∧ y < x
    · by_cases h2 : (k : Int) = x
      · by_cases h3 : RangedV k d
        · exact .inl ⟨hg, h1.1, h1.2, h2, h3⟩
        · exact .inr ⟨1, .inl rfl, .inr (.inr (.inr ⟨hg, h1.1, h1.2, h2, h3, rfl⟩))⟩
      · exact .inr ⟨3, .inr (.inl rfl), .inr (.inr (.inl ⟨hg, h1.1, h1.2, h2, rfl⟩))⟩
    · exact .inr ⟨1, .inl rfl, .inr (.inl ⟨hg, by omega, rfl⟩)⟩
  · exact .inr ⟨v, hv, .inl hf⟩

/-- The first that is no distance. -/
theorem ranged_or (n : Nat) (d : Nat → Int) : RangedV n d ∨ ∃ i, i < n ∧ RangedV i d ∧ (d i < 0 ∨ 16 < d i) := by
  induction n with
  | zero => exact .inl fun i hi => absurd hi (by omega)
  | succ n ih =>
    rcases ih with h | ⟨i, hi, h⟩
    · by_cases h2 : 0 ≤ d n ∧ d n ≤ 16
      · refine .inl fun i hi => ?_
        rcases Nat.lt_or_ge i n with hlt | hge
        · exact h i hlt
        · obtain rfl : i = n := by omega
          exact h2
      · exact .inr ⟨n, by omega, h, by omega⟩
    · exact .inr ⟨i, by omega, h⟩

set_option maxRecDepth 100000 in
set_option maxHeartbeats 1000000 in
theorem bellRound_bad (x y : Int) (A D : Option Addr) (m cp cd k : Nat) (a b c d : Nat → Int) (w : World) (hl : Lnk w A m a b c) (hd : Vec w D k d) (hm : m ≤ 9223372036854775807) (hk : k ≤ 9223372036854775807) (v : Int) (h : FaultR x m a b c y k d v) :
    Calls Try.prog 28 #[.int .i64 x, .slice A m cp, .int .i64 y, .slice D k cd] w fun e w' => e = .returned (.tuple #[.slice none 0 0, errNo v]) ∧ Below w.heap.size w w' := by
  have HL := Lib.hid hl
  have HD := Lib.hid hd
  clear hl hd
  rcases h with hf | ⟨hg, hy, rfl⟩ | ⟨hg, h1, h2, hne, rfl⟩ | ⟨hg, h1, h2, he, hr, rfl⟩
  · have HF := Lib.hid hf
    clear hf
    go_enter Try.func28, Try.ntmps28
    go_wp2_with fail
    refine (graphCheck_bad x A m cp a b c w HL.out hm v HF.out).mono ?_
    rintro e w1 ⟨rfl, hb1⟩
    go_wp2_with fail
    go_ret2
    exact ⟨rfl, hb1⟩
  · have HG := Lib.hid hg
    have HY := Lib.hid hy
    clear hg hy
    go_enter Try.func28, Try.ntmps28
    go_wp2_with fail
    refine (graphCheck_good x A m cp a b c w HL.out hm HG.out).mono ?_
    rintro e w1 ⟨rfl, hb1⟩
    have HB1 := Lib.hid hb1
    clear hb1
    go_wp2_with fail
    refine (bellStart_bad x y w1 (.inr ⟨HG.out.1, HG.out.2.1, HY.out⟩)).mono ?_
    rintro e w2 ⟨rfl, hb2⟩
    go_wp2_with fail
    go_ret2
    exact ⟨rfl, keep HB1.out hb2⟩
  · obtain ⟨n, rfl, hn1, hn8, -⟩ := good_nat hg
    obtain ⟨t, rfl⟩ : ∃ t : Nat, y = t := ⟨y.toNat, by omega⟩
    have HG := Lib.hid hg
    have HT := Lib.hid (show t < n by omega)
    have hd : decide ((k : Int) = (n : Int)) = false := decide_eq_false hne
    have hkn : k ≠ n := by omega
    clear hg h1 h2 hne
    go_enter Try.func28, Try.ntmps28
    go_wp2_with fail
    refine (graphCheck_good n A m cp a b c w HL.out hm HG.out).mono ?_
    rintro e w1 ⟨rfl, hb1⟩
    have HB1 := Lib.hid hb1
    clear hb1
    go_wp2_with fail
    have hcall := bellStart_ok n t n t rfl rfl w1 hn1 hn8 HT.out
    refine hcall.mono ?_
    clear hcall
    rintro e w2 ⟨g, rfl, -, -, hb2⟩
    have HB2 := Lib.hid (keep HB1.out hb2)
    clear hb2 HB1
    go_wp2_with fail
    go_ret2
    exact ⟨rfl, HB2.out⟩
  · obtain rfl : x = (k : Int) := he.symm
    obtain ⟨n, he, hn1, hn8, -⟩ := good_nat hg
    obtain rfl : k = n := by omega
    obtain ⟨t, rfl⟩ : ∃ t : Nat, y = t := ⟨y.toNat, by omega⟩
    obtain ⟨q, hq, hrq, hbad⟩ := (ranged_or k d).resolve_left hr
    have hn8' : (k : Int) ≤ 8 := by omega
    have HG := Lib.hid hg
    have HT := Lib.hid (show t < k by omega)
    have HR := Lib.hid hrq
    clear hg h1 h2 he hr hrq
    go_enter Try.func28, Try.ntmps28
    go_wp2_with fail
    refine (graphCheck_good k A m cp a b c w HL.out hm HG.out).mono ?_
    rintro e w1 ⟨rfl, hb1⟩
    have HB1 := Lib.hid hb1
    clear hb1
    go_wp2_with fail
    have hcall := bellStart_ok k t k t rfl rfl w1 hn1 hn8 HT.out
    refine hcall.mono ?_
    clear hcall
    rintro e w2 ⟨g, rfl, -, -, hb2⟩
    have HB2 := Lib.hid (keep HB1.out hb2)
    clear hb2 HB1
    go_wp2_with fail
    go_loopw [40] (fun i wr => ∃ r : Nat, r ≤ q ∧ i = .int .i64 r ∧ wr = w2) (fun i _ => k - (intOf i).toNat)
    case atStart => exact ⟨0, by omega, rfl, rfl⟩
    case round =>
      obtain ⟨r, hr, rfl, rfl⟩ := hrel
      have hrk : (r : Int) < k := by omega
      obtain ⟨dd, rfl, hdl, hdc⟩ := HD.out r (by omega)
      have hdc := (HB2.out.cell (by rw [block_of_add]; exact hdl)).trans hdc
      clear hdl
      by_cases hlt : r < q
      · go_wp2_with fail
        refine (distCheck_ok (d r) _ (HR.out r hlt).1 (HR.out r hlt).2).mono ?_
        rintro e w3 ⟨rfl, rfl⟩
        go_wp2_with fail
        go_roundw
        case rel => exact ⟨r + 1, by omega, by go_num, trivial⟩
        case measure => simp [intOf]; omega
      · obtain rfl : r = q := by omega
        go_wp2_with fail
        refine (distCheck_bad (d r) _ hbad).mono ?_
        rintro e w3 ⟨rfl, rfl⟩
        go_wp2_with fail
        go_ret2
        exact ⟨rfl, HB2.out⟩

theorem bellRound_good (x y : Int) (A D : Option Addr) (m cp cd k : Nat) (a b c d : Nat → Int) (w : World) (hl : Lnk w A m a b c) (hd : Vec w D k d) (hm : m ≤ 9223372036854775807) (h : GoodR x m a b c y k d) :
    Calls Try.prog 28 #[.int .i64 x, .slice A m cp, .int .i64 y, .slice D k cd] w fun e w' => ∃ g, e = .returned (.tuple #[.slice (some ⟨g, 0, none⟩) k k, .nilIface]) ∧ w.heap.size ≤ g ∧
      RowP w' g 3 k (fun i => .int .i64 (roundTo y.toNat a b c d m i)) ∧ Below w.heap.size w w' := by
  obtain ⟨hg, h1, h2, he, hr⟩ := h
  subst he
  exact bellRound_ok k y.toNat k y rfl (by omega) A D m cp cd k rfl a b c d w hl hd hm hg (by omega) hr

theorem bellRun_bad_aux (x y : Int) (m : Nat) (a b c : Nat → Int) : (GoodG x m a b c ∧ 0 ≤ y ∧ y < x) ∨ ∃ v, (v = 1 ∨ v = 3 ∨ v = 5) ∧ (FaultG x m a b c v ∨ (GoodG x m a b c ∧ (y < 0 ∨ x ≤ y) ∧ v = 1)) := by
  rcases graph_cases x m a b c with hg | ⟨v, hv, hf⟩
  · by_cases h1 : 0 ≤ y ∧ y < x
    · exact .inl ⟨hg, h1⟩
    · exact .inr ⟨1, .inl rfl, .inr ⟨hg, by omega, rfl⟩⟩
  · exact .inr ⟨v, hv, .inl hf⟩

set_option maxRecDepth 100000 in
set_option maxHeartbeats 1000000 in
theorem bellRun_bad (x y : Int) (A : Option Addr) (m cp : Nat) (a b c : Nat → Int) (w : World) (hl : Lnk w A m a b c) (hm : m ≤ 9223372036854775807) (v : Int) (h : FaultG x m a b c v ∨ (GoodG x m a b c ∧ (y < 0 ∨ x ≤ y) ∧ v = 1)) :
    Calls Try.prog 16 #[.int .i64 x, .slice A m cp, .int .i64 y] w fun e w' => e = .returned (.tuple #[.slice none 0 0, .int .i64 0, errNo v]) ∧ Below w.heap.size w w' := by
  have HL := Lib.hid hl
  clear hl
  rcases h with hf | ⟨hg, hy, rfl⟩
  · have HF := Lib.hid hf
    clear hf
    go_enter Try.func16, Try.ntmps16
    go_wp2_with fail
    refine (graphCheck_bad x A m cp a b c w HL.out hm v HF.out).mono ?_
    rintro e w1 ⟨rfl, hb1⟩
    go_wp2_with fail
    go_ret3
    exact ⟨rfl, hb1⟩
  · have HG := Lib.hid hg
    have HY := Lib.hid hy
    clear hg hy
    go_enter Try.func16, Try.ntmps16
    go_wp2_with fail
    refine (graphCheck_good x A m cp a b c w HL.out hm HG.out).mono ?_
    rintro e w1 ⟨rfl, hb1⟩
    have HB1 := Lib.hid hb1
    clear hb1
    go_wp2_with fail
    refine (bellStart_bad x y w1 (.inr ⟨HG.out.1, HG.out.2.1, HY.out⟩)).mono ?_
    rintro e w2 ⟨rfl, hb2⟩
    go_wp2_with fail
    go_ret3
    exact ⟨rfl, keep HB1.out hb2⟩

/-- How many rounds it takes. -/
def Takes (n t : Nat) (a b c : Nat → Int) (m k : Nat) : Prop := k < n ∧ (∀ i, i < n → rounds t a b c m (startF t) k i = endF t a b c m i) ∧ ∀ j, j < k → ∃ i, i < n ∧ rounds t a b c m (startF t) (j + 1) i ≠ rounds t a b c m (startF t) j i

set_option maxRecDepth 100000 in
set_option maxHeartbeats 2000000 in
theorem bellRun_ok (n t : Nat) (x y : Int) (hx : x = (n : Int)) (hy : y = (t : Int)) (A : Option Addr) (m cp : Nat) (a b c : Nat → Int) (w : World) (hl : Lnk w A m a b c) (hm : m ≤ 9223372036854775807) (hg : GoodG x m a b c) (ht : t < n) :
    Calls Try.prog 16 #[.int .i64 x, .slice A m cp, .int .i64 y] w fun e w' => ∃ g k : Nat, e = .returned (.tuple #[.slice (some ⟨g, 0, none⟩) n n, .int .i64 k, .nilIface]) ∧ w.heap.size ≤ g ∧
      RowP w' g 3 n (fun i => .int .i64 (endF t a b c m i)) ∧ Takes n t a b c m k ∧ Below w.heap.size w w' := by
  subst hx
  subst hy
  have h1 : 1 ≤ n := by have := hg.1; omega
  have h8 : n ≤ 8 := by have := hg.2.1; omega
  have hR : Right n m a b c := by simpa using hg.2.2
  have HL := Lib.hid hl
  have HG := Lib.hid hg
  have HR := Lib.hid hR
  have h8' : (n : Int) ≤ 8 := by omega
  clear hl hg hR
  go_enter Try.func16, Try.ntmps16
  go_wp2_with fail
  refine (graphCheck_good n A m cp a b c w HL.out hm HG.out).mono ?_
  rintro e w1 ⟨rfl, hb1⟩
  have HB1 := Lib.hid hb1
  clear hb1
  go_wp2_with fail
  have hcall := bellStart_ok n t n t rfl rfl w1 h1 h8 ht
  refine hcall.mono ?_
  clear hcall
  rintro e w2 ⟨g, rfl, hgb, hrow, hb2⟩
  have HRW := Lib.hid hrow
  have HB2 := Lib.hid (keep HB1.out hb2)
  have HGB : Hid (w.heap.size ≤ g) := Nat.le_trans HB1.out.size hgb
  clear hrow hb2 hgb HB1
  go_wp2_with fail
  go_loopw [10, 12] (fun v i wr => ∃ r g : Nat, r < n ∧ i = .int .i64 r ∧ v = .slice (some ⟨g, 0, none⟩) n n ∧ w.heap.size ≤ g ∧ RowP wr g 3 n (fun i => .int .i64 (rounds t a b c m (startF t) r i)) ∧ Hid (∀ j, j < r → ∃ i, i < n ∧ rounds t a b c m (startF t) (j + 1) i ≠ rounds t a b c m (startF t) j i) ∧ Below w.heap.size w wr) (fun _ i _ => n - (intOf i).toNat)
  case atStart => exact ⟨0, g, by omega, rfl, rfl, HGB.out, HRW.out, Lib.hid (fun j hj => absurd hj (by omega)), HB2.out⟩
  case round =>
    obtain ⟨r, g', hr, rfl, rfl, hgb, hrow, HN, hb⟩ := hrel
    clear HRW HB2 HGB
    have hr' : (r : Int) < n := by omega
    have HGB := Lib.hid hgb
    have HRW := Lib.hid hrow
    have HB := Lib.hid hb
    clear hgb hrow hb
    go_wp2_with fail
    have hcall := bellRound_ok n t n t rfl rfl A (some ⟨g', 0, none⟩) m cp n n rfl a b c (rounds t a b c m (startF t) r) wr (HL.out.keep HB.out) HRW.out.vec hm HG.out ht (rounds_ranged HR.out (startF_ranged t n) r)
    refine hcall.mono ?_
    clear hcall
    rintro e w3 ⟨g3, rfl, hg3, hrow3, hb3⟩
    have HG3 := Lib.hid (Nat.le_trans HB.out.size hg3)
    have HRW3 := Lib.hid hrow3
    have HRO3 := Lib.hid (HRW.out.below hb3 HRW.out.lt)
    have HB3 := Lib.hid (keep HB.out hb3)
    clear hg3 hrow3 hb3 HB HRW
    go_wp2_with fail
    by_cases hs : SameV n n (roundTo t a b c (rounds t a b c m (startF t) r) m) (rounds t a b c m (startF t) r)
    · have HS := Lib.hid hs.2
      clear hs
      have hcall := equal_walk (some ⟨g3, 0, none⟩) (some ⟨g', 0, none⟩) n n n n _ _ w3 HRW3.out.vec HRO3.out.vec (by omega) (by omega) true ⟨fun _ => ⟨rfl, HS.out⟩, fun _ => rfl⟩
      refine hcall.mono ?_
      clear hcall
      rintro e w4 ⟨rfl, k4, rfl⟩
      go_wp2_with fail
      go_ret3
      have he : ∀ i, i < n → rounds t a b c m (startF t) r i = endF t a b c m i := end_only HR.out (rounds_ranged HR.out (startF_ranged t n) r) HS.out
      refine ⟨g', r, rfl, HGB.out, (HRO3.out.congr fun i hi => ?_).drewN k4, ⟨hr, he, HN.out⟩, below_drewN HB3.out _⟩
      rw [he i hi]
    · have HS := Lib.hid hs
      clear hs
      have hcall := equal_walk (some ⟨g3, 0, none⟩) (some ⟨g', 0, none⟩) n n n n _ _ w3 HRW3.out.vec HRO3.out.vec (by omega) (by omega) false ⟨(fun h => by cases h), fun h => absurd h HS.out⟩
      refine hcall.mono ?_
      clear hcall
      rintro e w4 ⟨rfl, k4, rfl⟩
      have HX : Hid (∃ i, i < n ∧ rounds t a b c m (startF t) (r + 1) i ≠ rounds t a b c m (startF t) r i) := Classical.byContradiction fun hno => HS.out ⟨rfl, fun i hi => Classical.byContradiction fun hne => hno ⟨i, hi, hne⟩⟩
      have hr1 : r + 1 < n := by
        rcases Nat.lt_or_ge (r + 1) n with h | h
        · exact h
        · obtain ⟨i, hi, hne⟩ := HX.out
          exact absurd (end_stays HR.out (end_fewer HR.out ht h) i hi) hne
      go_wp2_with fail
      go_roundw
      case rel => exact ⟨r + 1, g3, hr1, by go_num, rfl, HG3.out, HRW3.out.drewN k4, Lib.hid (fun j hj => by
          rcases Nat.lt_or_ge j r with h | h
          · exact HN.out j h
          · obtain rfl : j = r := by omega
            exact HX.out), below_drewN HB3.out _⟩
      case measure => simp [intOf]; omega

end Go.Proofs.Ytlemmphnmklbeaa

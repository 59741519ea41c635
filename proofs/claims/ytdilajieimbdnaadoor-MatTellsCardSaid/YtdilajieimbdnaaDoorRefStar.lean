/- The walks of the reference's LeastOf, StarOf, TableFault. -/
import Derived.Test.YtdilajieimbdnaaDoorRefMat
import Derived.Deep.RegionHeld3
import Derived.Deep.QuietTactic
import Derived.BigQuiet
namespace Go.Proofs.YtdilajieimbdnaaDoor
open Go.RowKit
set_option linter.unusedVariables false

attribute [local go_sem high] run_min_pair

/-- What the least of two numbers of two tables reads. -/
def LeastS (ad bd Ai Bi : Addr) (n ci di r q : Nat) (u v : Int) (w : World) : Prop :=
  w.cell? (ad.add r) = some (.slice (some Ai) n ci) ∧ w.cell? (Ai.add q) = some (.int .i64 u) ∧ w.cell? (bd.add r) = some (.slice (some Bi) n di) ∧ w.cell? (Bi.add q) = some (.int .i64 v)

theorem LeastS.keep {ad bd Ai Bi : Addr} {n ci di r q : Nat} {u v : Int} {w w' : World} {B : Nat} (h : LeastS ad bd Ai Bi n ci di r q u v w) (hb : Below B w w') (hl : ad.block < B ∧ bd.block < B ∧ Ai.block < B ∧ Bi.block < B) : LeastS ad bd Ai Bi n ci di r q u v w' := by
  obtain ⟨h0, h1, h2, h3⟩ := h
  exact ⟨(hb.cell (by rw [block_of_add]; exact hl.1)).trans h0, (hb.cell (by rw [block_of_add]; exact hl.2.2.1)).trans h1, (hb.cell (by rw [block_of_add]; exact hl.2.1)).trans h2, (hb.cell (by rw [block_of_add]; exact hl.2.2.2)).trans h3⟩

def leastF (a b : Nat → Nat → Int) (i k : Nat) : Int := min (a i k) (b i k)

set_option maxRecDepth 100000 in
set_option maxHeartbeats 2000000 in
theorem leastOf_walk (A B : Option Addr) (n ca cb : Nat) (a b : Nat → Nat → Int) (w : World) (hA : Mat w A n (fun _ => n) a) (hB : Mat w B n (fun _ => n) b) (h1 : 1 ≤ n) (h8 : n ≤ 8) :
    Calls Tryd.prog 69 #[.slice A n ca, .slice B n cb] w fun e w' => ∃ v, e = .returned v ∧ Tab w' w.heap.size v n n (leastF a b) ∧ Below w.heap.size w w' := by
  have h1' : (1 : Int) ≤ n := by omega
  have h8' : (n : Int) ≤ 8 := by omega
  obtain ⟨ad, rfl⟩ := hA.some_ h1
  obtain ⟨bd, rfl⟩ := hB.some_ h1
  have HA := Lib.hid hA
  have HM := Lib.hid hB
  clear hA hB
  go_enter Tryd.func69, Tryd.ntmps69
  go_wp2_with fail
  go_loopw [5, 6] (fun v i wr => ∃ r : Nat, r ≤ n ∧ i = .int .i64 r ∧ Tab wr w.heap.size v r n (leastF a b) ∧ Below w.heap.size w wr) (fun _ i _ => n - (intOf i).toNat)
  case atStart => exact ⟨0, by omega, rfl, Tab.nil _ _ _ _, Below.refl _ _⟩
  case round =>
    obtain ⟨r, hr, rfl, hT, hb⟩ := hrel
    obtain ⟨wo, hwo⟩ : ∃ wo, wo = wr := ⟨_, rfl⟩
    subst hwo
    have HT := Lib.hid hT
    have HB := Lib.hid hb
    clear hT hb
    by_cases hlt : r < n
    · have hlt' : (r : Int) < n := by omega
      go_wp2_with fail
      go_loopw [7, 8] (fun v i wj => ∃ q : Nat, q ≤ n ∧ i = .int .i64 q ∧ OwnV wj wo.heap.size v q (leastF a b r) ∧ Below wo.heap.size wo wj) (fun _ i _ => n - (intOf i).toNat)
      case atStart => exact ⟨0, by omega, rfl, OwnV.nil _ _ _, Below.refl _ _⟩
      case round =>
        obtain ⟨q, hq, rfl, hV, hbj⟩ := hrel
        obtain ⟨wi, hwi⟩ : ∃ wi, wi = wr := ⟨_, rfl⟩
        subst hwi
        have HV := Lib.hid hV
        have HBJ := Lib.hid hbj
        have HBW := Lib.hid (keep HB.out hbj)
        clear hV hbj
        by_cases hqn : q < n
        · have hqn' : (q : Int) < n := by omega
          obtain ⟨Ai, ci, ⟨hc1, hal⟩, hAl, hc2⟩ := HA.out.sq h1 r hlt
          obtain ⟨Bi, di, ⟨hd1, hbl⟩, hBl, hd2⟩ := HM.out.sq h1 r hlt
          have hc2 := hc2 q hqn
          have hd2 := hd2 q hqn
          obtain ⟨u, hu⟩ : ∃ u, a r q = u := ⟨_, rfl⟩
          obtain ⟨v, hv⟩ : ∃ v, b r q = v := ⟨_, rfl⟩
          rw [hu] at hc2
          rw [hv] at hd2
          have HZ : Hid (min u v = leastF a b r q) := by show min u v = min (a r q) (b r q); rw [hu, hv]
          have HS : Hid (LeastS ad bd Ai Bi n ci di r q u v wi) := LeastS.keep (w := w) (B := w.heap.size) ⟨hc1, hc2, hd1, hd2⟩ HBW.out ⟨hal, hbl, hAl, hBl⟩
          have HLT : Hid (ad.block < wo.heap.size ∧ bd.block < wo.heap.size ∧ Ai.block < wo.heap.size ∧ Bi.block < wo.heap.size) := by
            have := HB.out.size
            exact ⟨by omega, by omega, by omega, by omega⟩
          have HS1 : Hid (LeastS ad bd Ai Bi n ci di r q u v (wi.alloc (.cells #[.int .i64 (min u v)] 3)).drew) :=
            LeastS.keep (w := wi) (B := wo.heap.size) HS.out ((Below.refl _ _).alloc HBJ.out.size _).drew HLT.out
          clear hu hv hc1 hc2 hd1 hd2 hal hbl hAl hBl
          obtain ⟨hc1, hc2, hd1, hd2⟩ := HS.out
          have hqm : q ≤ 1000000000000 := by omega
          go_wp2_with fail
          go_region_held3 (fun w' => w'.cell? (ad.add r) = some (.slice (some Ai) n ci) ∧ w'.cell? (Ai.add q) = some (.int .i64 u) ∧ w'.cell? (bd.add r) = some (.slice (some Bi) n di) ∧ w'.cell? (Bi.add q) = some (.int .i64 v))
            (first | exact HS1.out | exact LeastS.keep HS1.out hb6 HLT.out | go_keep)
            ((refine step_append_int rfl (.tmp 21) (.tmp 37) rfl wo.heap.size _ q _ rfl ((HV.out.alloc _).drew) (min u v) ⟨wi.heap.size, 0, none⟩ rfl (cell_new_at wi _ _ rfl) hqm (by have := HBJ.out.size; simp; omega) ?_; intro g cap w6 hV6 hb6 _ _))
          all_goals
            have HV6 := Lib.hid (hV6.congr (f' := leastF a b r) fun j hj => by
              unfold upd
              by_cases e : j = q
              · rw [if_pos e, e]; exact HZ.out
              · rw [if_neg e])
            have HB6 := Lib.hid (Below.trans (HBJ.out.alloc HBJ.out.size _).drew hb6)
            clear hV6 hb6 hc1 hc2 hd1 hd2
            go_wp2_with fail
            go_roundw
            case rel => exact ⟨q + 1, by omega, by go_num, HV6.out, HB6.out⟩
            case measure => simp [intOf]; omega
        · obtain rfl : n = q := by omega
          obtain ⟨g, cg, rfl, hg, hrow⟩ := HV.out.row h1
          have HG := Lib.hid hg
          have HROW := Lib.hid hrow
          clear hg hrow hqn hq
          go_wp2_with (at_builtin; refine wpList_append_tab rfl (.tmp 39) (.tmp 41) rfl wo w.heap.size _ r n (leastF a b) rfl HT.out (HBJ.out.alloc HBJ.out.size _) g cg HG.out (HROW.out.alloc _) _ rfl (cell_new_at _ _ _ rfl) (by omega) HB.out.size ?_)
          intro v2 w2 hT2 hb2
          have HT2 := Lib.hid hT2
          have HB2 : Hid (Below w.heap.size w w2) := (HB.out.trans (((HBJ.out.alloc HBJ.out.size _).mono HB.out.size))).trans hb2
          clear hT2 hb2
          go_wp2_with fail
          go_roundw
          case rel => exact ⟨r + 1, by omega, by go_num, HT2.out, HB2.out⟩
          case measure => simp [intOf]; omega
    · obtain rfl : n = r := by omega
      clear hlt hr
      go_wp2_with fail
      go_ret
      exact ⟨_, rfl, HT.out, HB.out⟩

set_option maxRecDepth 100000 in
set_option maxHeartbeats 2000000 in
theorem starOf_walk (A : Option Addr) (n ca : Nat) (a : Nat → Nat → Int) (w : World) (hA : Mat w A n (fun _ => n) a) (h1 : 1 ≤ n) (h8 : n ≤ 8) (ha : Ranged n a) :
    Calls Tryd.prog 46 #[.slice A n ca] w fun e w' => ∃ D c, e = .returned (.slice D n c) ∧ Mat w' D n (fun _ => n) (starF n a) ∧ Below w.heap.size w w' := by
  have h1' : (1 : Int) ≤ n := by omega
  have h8' : (n : Int) ≤ 8 := by omega
  have HA := Lib.hid hA
  have RA := Lib.hid ha
  clear hA ha
  go_enter Tryd.func46, Tryd.ntmps46
  go_wp2_with fail
  have hcall := oneOf_walk n n rfl w h1 h8
  refine hcall.mono ?_
  clear hcall
  rintro e w1 ⟨v1, rfl, hT1, hb1⟩
  obtain ⟨g1, c1, rfl, hM1⟩ := hT1.mat h1
  have HM1 := Lib.hid hM1
  have HB1 := Lib.hid hb1
  clear hT1 hM1 hb1
  go_wp2_with fail
  go_loopw [3, 4, 5] (fun v u i wr => ∃ r : Nat, r ≤ n ∧ i = .int .i64 r ∧ (∃ P c, v = .slice P n c ∧ Mat wr P n (fun _ => n) (powF n a r)) ∧ (∃ Q c, u = .slice Q n c ∧ Mat wr Q n (fun _ => n) (outF n a r)) ∧ Below w.heap.size w wr) (fun _ _ i _ => n - (intOf i).toNat)
  case atStart => exact ⟨0, by omega, rfl, ⟨_, _, rfl, HM1.out⟩, ⟨_, _, rfl, HM1.out⟩, HB1.out⟩
  case round =>
    obtain ⟨r, hr, rfl, ⟨P, cp, rfl, hP⟩, ⟨Q, cq, rfl, hQ⟩, hb⟩ := hrel
    clear HM1 HB1
    have HP := Lib.hid hP
    have HQ := Lib.hid hQ
    have HB := Lib.hid hb
    clear hP hQ hb
    by_cases hlt : r < n
    · have hlt' : (r : Int) < n := by omega
      go_wp2_with fail
      have hcall := mulOf_walk P A n cp ca (powF n a r) a wr HP.out (HA.out.keep HB.out) h1 h8 (pow_ranged RA.out r) RA.out
      refine hcall.mono ?_
      clear hcall
      rintro e w2 ⟨v2, rfl, hT2, hb2⟩
      obtain ⟨g2, c2, rfl, hM2⟩ := hT2.mat h1
      have HM2 := Lib.hid hM2
      have HQ2 := Lib.hid (HQ.out.keep hb2)
      have HB2 := Lib.hid (keep HB.out hb2)
      clear hT2 hM2 hb2
      go_wp2_with fail
      have hcall := leastOf_walk Q (some ⟨g2, 0, none⟩) n cq c2 (outF n a r) (mulF n (powF n a r) a) w2 HQ2.out HM2.out h1 h8
      refine hcall.mono ?_
      clear hcall
      rintro e w3 ⟨v3, rfl, hT3, hb3⟩
      obtain ⟨g3, c3, rfl, hM3⟩ := hT3.mat h1
      have HM3 := Lib.hid hM3
      have HM23 := Lib.hid (HM2.out.keep hb3)
      have HB3 := Lib.hid (keep HB2.out hb3)
      clear hT3 hM3 hb3
      go_wp2_with fail
      go_roundw
      case rel => exact ⟨r + 1, by omega, by go_num, ⟨_, _, rfl, HM23.out⟩, ⟨_, _, rfl, HM3.out⟩, HB3.out⟩
      case measure => simp [intOf]; omega
    · obtain rfl : n = r := by omega
      have HE : Hid (Mat wr Q n (fun _ => n) (starF n a)) := by
        intro i hi
        obtain ⟨qd, Ai, ci, e1, e2, e3, e4⟩ := HQ.out i hi
        refine ⟨qd, Ai, ci, e1, e2, e3, fun j hj => ?_⟩
        rw [← out_star RA.out hi hj]
        exact e4 j hj
      clear hlt hr
      go_wp2_with fail
      go_ret
      exact ⟨_, _, rfl, HE.out, HB.out⟩

theorem ragged_or (n : Nat) (L : Nat → Nat) : (∀ i, i < n → L i = n) ∨ ∃ i0, i0 < n ∧ (∀ i, i < i0 → L i = n) ∧ L i0 ≠ n := by
  rcases Classical.em (∀ i, i < n → L i = n) with h | h
  · exact .inl h
  · right
    have : ∀ m, (∀ i, i < m → L i = n) ∨ ∃ i0, i0 < m ∧ (∀ i, i < i0 → L i = n) ∧ L i0 ≠ n := by
      intro m
      induction m with
      | zero => exact .inl fun i hi => absurd hi (by omega)
      | succ m ih =>
        rcases ih with h | ⟨i0, h0, h1, h2⟩
        · by_cases e : L m = n
          · exact .inl fun i hi => by
              rcases Nat.lt_or_ge i m with hl | hg
              · exact h i hl
              · obtain rfl : i = m := by omega
                exact e
          · exact .inr ⟨m, by omega, h, e⟩
        · exact .inr ⟨i0, by omega, h1, h2⟩
    rcases this n with h' | h'
    · exact absurd h' h
    · exact h'

/-- The first number that is no distance, row by row. -/
theorem unranged_at (n : Nat) (f : Nat → Nat → Int) (h : ¬ Ranged n f) : ∃ i k, i < n ∧ k < n ∧ (f i k < 0 ∨ 16 < f i k) ∧ (∀ p q, p < i → q < n → 0 ≤ f p q ∧ f p q ≤ 16) ∧ ∀ q, q < k → 0 ≤ f i q ∧ f i q ≤ 16 := by
  have hrow : ∀ m, (∀ p, p < m → RangedV n (f p)) ∨ ∃ i, i < m ∧ (∀ p, p < i → RangedV n (f p)) ∧ ¬ RangedV n (f i) := by
    intro m
    induction m with
    | zero => exact .inl fun i hi => absurd hi (by omega)
    | succ m ih =>
      rcases ih with h | ⟨i0, h0, h1, h2⟩
      · rcases Classical.em (RangedV n (f m)) with e | e
        · exact .inl fun i hi => by
            rcases Nat.lt_or_ge i m with hl | hg
            · exact h i hl
            · obtain rfl : i = m := by omega
              exact e
        · exact .inr ⟨m, by omega, h, e⟩
      · exact .inr ⟨i0, by omega, h1, h2⟩
  rcases hrow n with h' | ⟨i, hi, h1, h2⟩
  · exact absurd (fun p q hp hq => h' p hp q hq) h
  · have hcol : ∀ m, RangedV m (f i) ∨ ∃ k, k < m ∧ RangedV k (f i) ∧ (f i k < 0 ∨ 16 < f i k) := by
      intro m
      induction m with
      | zero => exact .inl fun i hi => absurd hi (by omega)
      | succ m ih =>
        rcases ih with h | ⟨k, h0, h1, h2⟩
        · by_cases e : 0 ≤ f i m ∧ f i m ≤ 16
          · exact .inl fun q hq => by
              rcases Nat.lt_or_ge q m with hl | hg
              · exact h q hl
              · obtain rfl : q = m := by omega
                exact e
          · exact .inr ⟨m, by omega, h, by omega⟩
        · exact .inr ⟨k, by omega, h1, h2⟩
    rcases hcol n with h' | ⟨k, hk, h3, h4⟩
    · exact absurd h' h2
    · exact ⟨i, k, hi, hk, h4, fun p q hp hq => h1 p hp q hq, h3⟩

end Go.Proofs.YtdilajieimbdnaaDoor

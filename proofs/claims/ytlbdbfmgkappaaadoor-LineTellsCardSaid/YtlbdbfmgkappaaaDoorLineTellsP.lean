/- LineTellsP: in one text: RefCosts, StarRef, FarPlus, RefMat, RefBell, LineIt, QLine, RefLess, Rag, Two, QCut, QStep. -/
import Derived.Test.YtlbdbfmgkappaaaDoorCosts
import Derived.Test.YtlbdbfmgkappaaaDoorOwnV
import Derived.Test.YtlbdbfmgkappaaaDoorStarMath
import Derived.Test.YtlbdbfmgkappaaaDoorBellMath
import Derived.Test.YtlbdbfmgkappaaaDoorBase
import Derived.Test.YtlbdbfmgkappaaaDoorMatMul
import Derived.Test.YtlbdbfmgkappaaaDoorWords
import Derived.Test.YtlbdbfmgkappaaaDoorBellRun
import Derived.Test.YtlbdbfmgkappaaaDoorLineMath
import Derived.Test.YtlbdbfmgkappaaaDoorTabAt
import Derived.Deep.RegionHeld3
import Derived.Deep.AppendLies
import Derived.Test.YtlbdbfmgkappaaaDoorOwnLk
import Derived.Deep.QuietTactic
import Derived.BigQuiet
import Derived.Test.YtlbdbfmgkappaaaDoorTab
import Derived.Maps.AppendAt
import Derived.Deep.Cut
import Derived.Deep.CutRange
import Derived.Deep.DeepCutAuto
import Derived.Test.YtlbdbfmgkappaaaDoorTail
/- The walk of the reference's CostsOf. -/
namespace Go.Proofs.YtlbdbfmgkappaaaDoor
open Go.RowKit
set_option linter.unusedVariables false

theorem OwnV.row {w : World} {base n : Nat} {v : Value} {f : Nat → Int} (h1 : 1 ≤ n) (h : OwnV w base v n f) : ∃ g c, v = .slice (some ⟨g, 0, none⟩) n c ∧ base ≤ g ∧ RowP w g 3 n fun i => .int .i64 (f i) := by
  rcases h.form with ⟨rfl, -⟩ | ⟨g, c, e, hb, -, -, hr⟩
  · omega
  · exact ⟨g, c, e, hb, hr⟩

theorem RowP.congrI {w : World} {g n : Nat} {f f' : Nat → Int} (h : RowP w g 3 n fun i => .int .i64 (f i)) (e : ∀ i, i < n → f i = f' i) : RowP w g 3 n fun i => .int .i64 (f' i) :=
  h.congr fun i hi => by rw [e i hi]

set_option maxRecDepth 100000 in
set_option maxHeartbeats 2000000 in
theorem costsOf_walk (n : Nat) (x : Int) (hx : x = (n : Int)) (A : Option Addr) (m cp : Nat) (a b c : Nat → Int) (w : World) (hl : Lnk w A m a b c) (h1 : 1 ≤ n) (h8 : n ≤ 8) (hm : m ≤ 9223372036854775807) :
    Calls Tryd.prog 56 #[.int .i64 x, .slice A m cp] w fun e w' => ∃ v, e = .returned v ∧ Tab w' w.heap.size v n n (costF m a b c) ∧ Below w.heap.size w w' := by
  subst hx
  have h1' : (1 : Int) ≤ n := by omega
  have h8' : (n : Int) ≤ 8 := by omega
  have HL := Lib.hid hl
  clear hl
  go_enter Tryd.func56, Tryd.ntmps56
  go_wp2_with fail
  go_loopw [5, 6] (fun v i wr => ∃ r : Nat, r ≤ n ∧ i = .int .i64 r ∧ Tab wr w.heap.size v r n (costF m a b c) ∧ Below w.heap.size w wr) (fun _ i _ => n - (intOf i).toNat)
  case atStart => exact ⟨0, by omega, rfl, Tab.nil _ _ _ _, Below.refl _ _⟩
  case round =>
    obtain ⟨r, hr, rfl, hT, hb⟩ := hrel
    obtain ⟨wo, hwo⟩ : ∃ wo, wo = wr := ⟨_, rfl⟩
    subst hwo
    have HT := Lib.hid hT
    have HB := Lib.hid hb
    clear hT hb
    by_cases hlt : r < n
    · have hlt' : (r : Int) < n := by omega
      go_wp2_with fail
      go_loopw [7, 8] (fun v i wj => ∃ q : Nat, q ≤ n ∧ i = .int .i64 q ∧ OwnV wj wo.heap.size v q (costF m a b c r) ∧ Below wo.heap.size wo wj) (fun _ i _ => n - (intOf i).toNat)
      case atStart => exact ⟨0, by omega, rfl, OwnV.nil _ _ _, Below.refl _ _⟩
      case round =>
        obtain ⟨q, hq, rfl, hV, hbj⟩ := hrel
        have HV := Lib.hid hV
        have HBJ := Lib.hid hbj
        clear hV hbj
        by_cases hqn : q < n
        · have hqn' : (q : Int) < n := by omega
          obtain ⟨z, hz⟩ : ∃ z, costV m a b c r q = z := ⟨_, rfl⟩
          have HZ := Lib.hid hz
          clear hz
          have hcall := costOf_walk A m cp a b c r q wr (HL.out.keep (keep HB.out HBJ.out)) hm z HZ.out
          go_wp2_with fail
          refine hcall.mono ?_
          clear hcall
          rintro e w5 ⟨rfl, h5⟩
          subst w5
          go_wp2_with (at_builtin; refine wpList_append_int rfl (.tmp 19) (.tmp 24) rfl wo.heap.size _ q _ rfl (HV.out.alloc _) z ⟨wr.heap.size, 0, none⟩ rfl (cell_new_at _ _ _ rfl) (by omega) (Nat.le_trans HBJ.out.size (by simp)) ?_)
          intro g cap w6 hV6 hb6 _ _
          have HV6 := Lib.hid (hV6.congr (f' := costF m a b c r) fun j hj => by
            unfold upd
            by_cases e : j = q
            · rw [if_pos e, e]; exact HZ.out.symm
            · rw [if_neg e])
          have HB6 := Lib.hid ((HBJ.out.alloc HBJ.out.size _).trans hb6)
          clear hV6 hb6
          go_wp2_with fail
          go_roundw
          case rel => exact ⟨q + 1, by omega, by go_num, HV6.out, HB6.out⟩
          case measure => simp [intOf]; omega
        · obtain rfl : q = n := by omega
          obtain ⟨g, cg, rfl, hg, hrow⟩ := HV.out.row h1
          have HG := Lib.hid hg
          have HROW := Lib.hid hrow
          clear hg hrow
          go_wp2_with (at_builtin; refine wpList_append_tab rfl (.tmp 26) (.tmp 28) rfl wo w.heap.size _ r q (costF m a b c) rfl HT.out (HBJ.out.alloc HBJ.out.size _) g cg HG.out (HROW.out.alloc _) _ rfl (cell_new_at _ _ _ rfl) (by omega) HB.out.size ?_)
          intro v2 w2 hT2 hb2
          have HT2 := Lib.hid hT2
          have HB2 : Hid (Below w.heap.size w w2) := (HB.out.trans (((HBJ.out.alloc HBJ.out.size _).mono HB.out.size))).trans hb2
          clear hT2 hb2
          go_wp2_with fail
          go_roundw
          case rel => exact ⟨r + 1, by omega, by go_num, HT2.out, HB2.out⟩
          case measure => simp [intOf]; omega
    · obtain rfl : r = n := by omega
      go_wp2_with fail
      go_ret
      exact ⟨_, rfl, HT.out, HB.out⟩

end Go.Proofs.YtlbdbfmgkappaaaDoor

/- The least of as many powers as there are rows is the star. Plain laws. -/
namespace Go.Proofs.YtlbdbfmgkappaaaDoor
set_option linter.unusedVariables false

def powF (n : Nat) (a : Nat → Nat → Int) : Nat → Nat → Nat → Int
  | 0 => oneF
  | h + 1 => mulF n (powF n a h) a
def outF (n : Nat) (a : Nat → Nat → Int) : Nat → Nat → Nat → Int
  | 0 => oneF
  | h + 1 => fun i k => min (outF n a h i k) (powF n a (h + 1) i k)

section
variable {n : Nat} {a : Nat → Nat → Int}
theorem pow_ranged (ha : Ranged n a) : ∀ h, Ranged n (powF n a h)
  | 0 => fun i k _ _ => by
    show 0 ≤ oneF i k ∧ oneF i k ≤ 16
    unfold oneF
    split <;> omega
  | h + 1 => fun i k hi hk => by
    have ih := pow_ranged ha h
    show 0 ≤ mulF n (powF n a h) a i k ∧ mulF n (powF n a h) a i k ≤ 16
    refine ⟨le_minTo (by omega) fun j hj => ?_, minTo_le16 _ _⟩
    have := ih i j hi hj
    have := ha j k hj hk
    omega
theorem out_ranged (ha : Ranged n a) : ∀ h, Ranged n (outF n a h)
  | 0 => pow_ranged ha 0
  | h + 1 => fun i k hi hk => by
    have h1 := out_ranged ha h i k hi hk
    have h2 := pow_ranged ha (h + 1) i k hi hk
    show 0 ≤ min (outF n a h i k) (powF n a (h + 1) i k) ∧ min (outF n a h i k) (powF n a (h + 1) i k) ≤ 16
    omega

theorem star_le_pow (ha : Ranged n a) : ∀ h i k, i < n → k < n → starF n a i k ≤ powF n a h i k
  | 0, i, k, hi, hk => by
    have h1 := star_one ha hi hk
    show starF n a i k ≤ oneF i k
    omega
  | h + 1, i, k, hi, hk => by
    have hR := star_ranged ha n (Nat.le_refl _) i k hi hk
    have e : starF n a i k = starTo a n i k := rfl
    show starF n a i k ≤ mulF n (powF n a h) a i k
    refine le_minTo (by omega) fun j hj => ?_
    have h1 := star_le_pow ha h i j hi hj
    have h2 := star_table ha j k hj hk n
    have h3 := star_tri ha hi hj hk
    have e2 : starF n a j k = starTo a n j k := rfl
    omega
theorem star_le_out (ha : Ranged n a) : ∀ h i k, i < n → k < n → starF n a i k ≤ outF n a h i k
  | 0, i, k, hi, hk => star_le_pow ha 0 i k hi hk
  | h + 1, i, k, hi, hk => by
    have h1 := star_le_out ha h i k hi hk
    have h2 := star_le_pow ha (h + 1) i k hi hk
    show starF n a i k ≤ min (outF n a h i k) (powF n a (h + 1) i k)
    omega
theorem out_falls (h i k : Nat) : outF n a (h + 1) i k ≤ outF n a h i k := by
  show min (outF n a h i k) (powF n a (h + 1) i k) ≤ _
  omega
theorem out_pow : ∀ h i k, ∃ r, r ≤ h ∧ outF n a h i k = powF n a r i k
  | 0, i, k => ⟨0, Nat.le_refl _, rfl⟩
  | h + 1, i, k => by
    rcases Int.le_total (outF n a h i k) (powF n a (h + 1) i k) with hle | hle
    · obtain ⟨r, hr, e⟩ := out_pow h i k
      exact ⟨r, by omega, by show min (outF n a h i k) (powF n a (h + 1) i k) = _; rw [Int.min_eq_left hle]; exact e⟩
    · exact ⟨h + 1, Nat.le_refl _, Int.min_eq_right hle⟩
theorem out_le_pow : ∀ h r i k, r ≤ h → outF n a h i k ≤ powF n a r i k
  | 0, r, i, k, hr => by
    obtain rfl : r = 0 := by omega
    exact Int.le_refl _
  | h + 1, r, i, k, hr => by
    show min (outF n a h i k) (powF n a (h + 1) i k) ≤ _
    by_cases e : r = h + 1
    · subst e; omega
    · have := out_le_pow h r i k (by omega)
      omega
theorem out_step {h i j k : Nat} (hj : j < n) : outF n a (h + 1) i k ≤ outF n a h i j + a j k := by
  obtain ⟨r, hr, e⟩ := out_pow (n := n) (a := a) h i j
  have h1 := out_le_pow (n := n) (a := a) (h + 1) (r + 1) i k (by omega)
  have h2 : powF n a (r + 1) i k ≤ powF n a r i j + a j k := minTo_le (F := fun j => powF n a r i j + a j k) hj
  omega

/-- On a shortest way to one that is not known yet there is a first such one. -/
theorem way_first_un (ha : Ranged n a) {i t : Nat} (hi : i < n) (x : Nat → Int) (hx : x t ≠ starF n a i t) {u : Nat} {s : Int} (hs : Steps n a u t s) :
    x u = starF n a i u → starF n a i u + s = starF n a i t → ∃ j k, j < n ∧ k < n ∧ x j = starF n a i j ∧ x k ≠ starF n a i k ∧ starF n a i k = starF n a i j + a j k := by
  induction hs with
  | none u hu => exact fun h => absurd h hx
  | more u j k s hu hs ih =>
    intro h1 h2
    have hj := hs.fst
    have hk := hs.snd
    have h3 := star_tri ha hi hu hj
    have h4 := star_table ha u j hu hj n
    have h5 := star_tri ha hi hj hk
    have h6 := star_least ha hs
    have e4 : starF n a u j = starTo a n u j := rfl
    by_cases hk' : x j = starF n a i j
    · exact ih hx hk' (by omega)
    · exact ⟨u, j, hu, hj, h1, hk', by omega⟩

theorem out_count (ha : Ranged n a) {i : Nat} (hi : i < n) : ∀ h : Nat, (∀ k, k < n → outF n a h i k = starF n a i k) ∨ h + 1 ≤ cntB (fun k => decide (outF n a h i k = starF n a i k)) n
  | 0 => .inr (cntB_pos (i := i) hi (by
      have h1 : starF n a i i = 0 := star_diag ha n (Nat.le_refl _) i hi
      have h2 : outF n a 0 i i = 0 := by show oneF i i = 0; unfold oneF; rw [if_pos rfl]
      simp only [decide_eq_true_eq]
      rw [h1, h2]))
  | h + 1 => by
    have keep : ∀ k, k < n → outF n a h i k = starF n a i k → outF n a (h + 1) i k = starF n a i k := fun k hk e => by
      have h1 := out_falls (n := n) (a := a) h i k
      have h2 := star_le_out ha (h + 1) i k hi hk
      omega
    rcases out_count ha hi h with hall | hc
    · exact .inl fun k hk => keep k hk (hall k hk)
    · by_cases hall : ∀ k, k < n → outF n a h i k = starF n a i k
      · exact .inl fun k hk => keep k hk (hall k hk)
      · right
        have hex : ∃ k, k < n ∧ outF n a h i k ≠ starF n a i k := Classical.byContradiction fun hno => hall fun k hk => Classical.byContradiction fun hne => hno ⟨k, hk, hne⟩
        obtain ⟨t, ht, hne⟩ := hex
        have hs := star_steps ha n (Nat.le_refl _) i t hi ht
        have h0 : starF n a i i = 0 := star_diag ha n (Nat.le_refl _) i hi
        have hii : outF n a h i i = starF n a i i := by
          have h1 := out_le_pow (n := n) (a := a) h 0 i i (by omega)
          have h2 := star_le_out ha h i i hi hi
          have h3 : powF n a 0 i i = 0 := by show oneF i i = 0; unfold oneF; rw [if_pos rfl]
          omega
        obtain ⟨j, k, hj, hk, e1, e2, e3⟩ := way_first_un ha hi (outF n a h i) hne hs hii (by rw [h0]; show 0 + starTo a n i t = starTo a n i t; omega)
        refine Nat.lt_of_le_of_lt hc (cntB_lt n (fun q hq hp => ?_) ⟨k, hk, by simpa using e2, ?_⟩)
        · simp only [decide_eq_true_eq] at hp ⊢
          exact keep q hq hp
        · simp only [decide_eq_true_eq]
          have h1 := out_step (n := n) (a := a) (h := h) (i := i) (k := k) hj
          have h2 := star_le_out ha (h + 1) i k hi hk
          omega

theorem out_star (ha : Ranged n a) {i k : Nat} (hi : i < n) (hk : k < n) : outF n a n i k = starF n a i k := by
  rcases out_count ha hi n with h | h
  · exact h k hk
  · have := cntB_le (fun k => decide (outF n a n i k = starF n a i k)) n
    omega
end

end Go.Proofs.YtlbdbfmgkappaaaDoor

/- The walks of the reference's Far and Plus. -/
namespace Go.Proofs.YtlbdbfmgkappaaaDoor
open Go.RowKit
set_option linter.unusedVariables false

attribute [local go_sem high] run_min_pair

theorem plus_walk (a b : Int) (w : World) (ha : 0 ≤ a) (ha' : a ≤ 16) (hb : 0 ≤ b) (hb' : b ≤ 16) : Calls Tryd.prog 60 #[.int .i64 a, .int .i64 b] w fun e w' => e = .returned (.int .i64 (min (a + b) 16)) ∧ w' = w := by
  go_enter Tryd.func60, Tryd.ntmps60
  go_wp2_with fail
  go_ret
  exact ⟨rfl, rfl⟩

end Go.Proofs.YtlbdbfmgkappaaaDoor

/- The walks of the reference's tables: TableFault, OneOf, MulOf, LeastOf, StarOf. -/
namespace Go.Proofs.YtlbdbfmgkappaaaDoor
open Go.RowKit
set_option linter.unusedVariables false

theorem Mat.none0 (w : World) : Mat w none 0 (fun _ => 0) (fun _ _ => 0) := fun j hj => absurd hj (by omega)

theorem costF_none (i k : Nat) : costF 0 (fun _ => 0) (fun _ => 0) (fun _ => 0) i k = oneF i k := (costF_zero _ _ _ i k).symm

theorem oneOf_walk (n : Nat) (x : Int) (hx : x = (n : Int)) (w : World) (h1 : 1 ≤ n) (h8 : n ≤ 8) :
    Calls Tryd.prog 61 #[.int .i64 x] w fun e w' => ∃ v, e = .returned v ∧ Tab w' w.heap.size v n n oneF ∧ Below w.heap.size w w' := by
  subst hx
  go_enter Tryd.func61, Tryd.ntmps61
  go_wp2_with fail
  have hcall := costsOf_walk n n rfl none 0 0 (fun _ => 0) (fun _ => 0) (fun _ => 0) w (fun j hj => absurd hj (by omega)) h1 h8 (by omega)
  refine hcall.mono ?_
  clear hcall
  rintro e w1 ⟨v, rfl, hT, hb⟩
  have HT : Hid (Tab w1 w.heap.size v n n oneF) := by
    obtain ⟨B, C, h1, h2, h3⟩ := hT
    exact ⟨B, C, h1, fun r hr => ⟨(h2 r hr).1, (h2 r hr).2.congrI fun j _ => costF_none r j⟩, h3⟩
  have HB := Lib.hid hb
  clear hT hb
  go_wp2_with fail
  go_ret
  exact ⟨_, rfl, HT.out, HB.out⟩

theorem oneF_ranged (n : Nat) : Ranged n oneF := fun i k _ _ => by
  unfold oneF
  split <;> omega

attribute [local go_sem high] run_min_pair

end Go.Proofs.YtlbdbfmgkappaaaDoor

/- The walks of the reference's Repeat, StartOf, RoundOf, FarOf. -/
namespace Go.Proofs.YtlbdbfmgkappaaaDoor
open Go.RowKit
set_option linter.unusedVariables false

set_option maxRecDepth 100000 in
set_option maxHeartbeats 1000000 in
theorem refRepeat_walk (z : Int) (n : Nat) (x : Int) (hx : x = (n : Int)) (w : World) (hn : n ≤ 1000000) :
    Calls Tryd.prog 58 #[.int .i64 z, .int .i64 x] w fun e w' => ∃ v, e = .returned v ∧ OwnV w' w.heap.size v n (fun _ => z) ∧ Below w.heap.size w w' := by
  subst hx
  have hn' : (n : Int) ≤ 1000000 := by omega
  go_enter Tryd.func58, Tryd.ntmps58
  go_wp2_with fail
  go_loopw [5, 6] (fun v i wr => ∃ q : Nat, q ≤ n ∧ i = .int .i64 q ∧ OwnV wr w.heap.size v q (fun _ => z) ∧ Below w.heap.size w wr) (fun _ i _ => n - (intOf i).toNat)
  case atStart => exact ⟨0, by omega, rfl, OwnV.nil _ _ _, Below.refl _ _⟩
  case round =>
    obtain ⟨q, hq, rfl, hT, hb⟩ := hrel
    have HT := Lib.hid hT
    have HB := Lib.hid hb
    clear hT hb
    by_cases hlt : q < n
    · have hlt' : (q : Int) < n := by omega
      go_wp2_with (at_builtin; refine wpList_append_int rfl (.tmp 12) (.tmp 14) rfl w.heap.size _ q _ rfl (HT.out.alloc _) z ⟨wr.heap.size, 0, none⟩ rfl (cell_new_at _ _ _ rfl) (by omega) (by have := HB.out.size; simp; omega) ?_)
      intro g cap w6 hV6 hb6 _ _
      have HV6 := Lib.hid (hV6.congr (f' := fun _ => z) fun j hj => by
        unfold upd
        split <;> rfl)
      have HB6 := Lib.hid ((HB.out.alloc HB.out.size _).trans hb6)
      clear hV6 hb6
      go_wp2_with fail
      go_roundw
      case rel => exact ⟨q + 1, by omega, by go_num, HV6.out, HB6.out⟩
      case measure => simp [intOf]; omega
    · obtain rfl : q = n := by omega
      go_wp2_with fail
      go_ret
      exact ⟨_, rfl, HT.out, HB.out⟩

set_option maxRecDepth 100000 in
set_option maxHeartbeats 1000000 in
theorem startOf_walk (n t : Nat) (x y : Int) (hx : x = (n : Int)) (hy : y = (t : Int)) (w : World) (ht : t < n) (hn : n ≤ 1000000) :
    Calls Tryd.prog 57 #[.int .i64 x, .int .i64 y] w fun e w' => ∃ g c, e = .returned (.slice (some ⟨g, 0, none⟩) n c) ∧ w.heap.size ≤ g ∧ RowP w' g 3 n (fun i => .int .i64 (startF t i)) ∧ Below w.heap.size w w' := by
  subst hx
  subst hy
  have ht' : (t : Int) < n := by omega
  have hn' : (n : Int) ≤ 1000000 := by omega
  go_enter Tryd.func57, Tryd.ntmps57
  go_wp2_with fail
  have hcall := refRepeat_walk 16 n n rfl w hn
  refine hcall.mono ?_
  clear hcall
  rintro e w1 ⟨v1, rfl, hV, hb1⟩
  obtain ⟨g, c, rfl, hg, hrow⟩ := hV.row (by omega)
  have hc := hrow.cell ht
  have hf := hrow.frozen t
  have HR := Lib.hid ((hrow.set t (.int .i64 0)).congr (f' := fun i => .int .i64 (startF t i)) fun i hi => by
    unfold upd startF
    by_cases e : i = t
    · rw [if_pos e, if_pos e]
    · rw [if_neg e, if_neg e])
  have HB := Lib.hid (hb1.setCell (p := ⟨g, t, none⟩) hg (.int .i64 0))
  have HG := Lib.hid hg
  clear hV hb1 hg hrow
  go_wp2_with fail
  go_ret
  exact ⟨g, c, rfl, HG.out, HR.out, HB.out⟩

/-- What a node thinks, of the first q nodes. -/
def refR (K : Nat → Nat → Int) (d : Nat → Int) (i : Nat) : Nat → Int
  | 0 => 16
  | q + 1 => if q ≠ i ∧ K i q < 16 then min (refR K d i q) (min (K i q + d q) 16) else refR K d i q

theorem refR_yes {K : Nat → Nat → Int} {d : Nat → Int} {i q : Nat} (h1 : q ≠ i) (h2 : K i q < 16) : refR K d i (q + 1) = min (refR K d i q) (min (K i q + d q) 16) := if_pos ⟨h1, h2⟩
theorem refR_no {K : Nat → Nat → Int} {d : Nat → Int} {i q : Nat} (h : q = i ∨ ¬ K i q < 16) : refR K d i (q + 1) = refR K d i q := if_neg fun ⟨h1, h2⟩ => h.elim h1 fun h => h h2
theorem refR_le {K : Nat → Nat → Int} {d : Nat → Int} {i : Nat} : ∀ q, refR K d i q ≤ 16
  | 0 => Int.le_refl _
  | q + 1 => by
    have ih := refR_le (K := K) (d := d) (i := i) q
    unfold refR
    split <;> omega
theorem refR_low {K : Nat → Nat → Int} {d : Nat → Int} {i k : Nat} (h1 : k ≠ i) (h2 : K i k < 16) : ∀ q, k < q → refR K d i q ≤ K i k + d k
  | 0, h => absurd h (by omega)
  | q + 1, h => by
    by_cases e : k = q
    · subst e
      rw [refR_yes h1 h2]
      omega
    · have ih := refR_low (d := d) h1 h2 q (by omega)
      unfold refR
      split <;> omega
theorem refR_is {K : Nat → Nat → Int} {d : Nat → Int} {i : Nat} : ∀ q, refR K d i q = 16 ∨ ∃ k, k < q ∧ k ≠ i ∧ K i k < 16 ∧ refR K d i q = K i k + d k
  | 0 => .inl rfl
  | q + 1 => by
    have ih := refR_is (K := K) (d := d) (i := i) q
    have ih' : refR K d i q = 16 ∨ ∃ k, k < q + 1 ∧ k ≠ i ∧ K i k < 16 ∧ refR K d i q = K i k + d k := by
      rcases ih with h | ⟨k, hk, h⟩
      · exact .inl h
      · exact .inr ⟨k, by omega, h⟩
    by_cases h : q ≠ i ∧ K i q < 16
    · rw [refR_yes h.1 h.2]
      rcases Int.le_total (K i q + d q) 16 with h16 | h16
      · rw [Int.min_eq_left h16]
        rcases Int.le_total (refR K d i q) (K i q + d q) with h2 | h2
        · rw [Int.min_eq_left h2]; exact ih'
        · rw [Int.min_eq_right h2]; exact .inr ⟨q, by omega, h.1, h.2, rfl⟩
      · rw [Int.min_eq_right h16, Int.min_eq_left (refR_le q)]; exact ih'
    · rw [show refR K d i (q + 1) = refR K d i q from if_neg h]; exact ih'

/-- The reference's round is the program's. -/
theorem ref_round {n m t i : Nat} {a b c d : Nat → Int} (hr : Right n m a b c) (hd : RangedV n d) (hi : i < n) : (if i = t then 0 else refR (costF m a b c) d i n) = roundTo t a b c d m i := by
  obtain ⟨h1, h2, h3⟩ := roundTo_round (t := t) (d := d) hr i hi
  have hR := (roundTo_round (t := t) hr).ranged (edge_good hr) hd i hi
  unfold startF at h1 h3
  by_cases e : i = t
  · rw [if_pos e] at h1 ⊢
    omega
  · rw [if_neg e] at h1 h3 ⊢
    refine Int.le_antisymm ?_ ?_
    · rcases h3 with h3 | ⟨v, k, he, h3⟩
      · rw [h3]; exact refR_le n
      · rw [h3]
        obtain ⟨-, hv, hne, -, h15⟩ := he.ok hr
        have ek : costF m a b c i v = k := costV_edge hr he
        rw [← ek]
        exact refR_low (fun e => hne e.symm) (by omega) n hv
    · rcases refR_is (K := costF m a b c) (d := d) (i := i) n with h | ⟨k, hk, hne, hlt, h⟩
      · rw [h]; exact h1
      · rw [h]
        exact h2 k _ (by
          rcases costV_cases hr i k with ⟨e, -⟩ | ⟨-, e, -⟩ | ⟨-, he⟩
          · exact absurd e.symm hne
          · have : costF m a b c i k = 16 := e
            omega
          · exact he)

attribute [local go_sem high] run_min_pair

end Go.Proofs.YtlbdbfmgkappaaaDoor

/- A line's steps, one behind the other: plain laws. -/
namespace Go.Proofs.YtlbdbfmgkappaaaDoor
set_option linter.unusedVariables false

/-- What node i thinks of t behind r steps: how far, and by whom. -/
def lineS (po : Bool) (n : Nat) (K : Nat → Nat → Int) (S0 : Nat → Nat → Int × Int) : Nat → Nat → Nat → Int × Int
  | 0 => S0
  | r + 1 => fun i t => thinkF po n t K (fun k => (lineS po n K S0 r k t).1) (fun k => (lineS po n K S0 r k t).2) i

/-- Each knows itself alone. -/
def startS (i t : Nat) : Int × Int := (startF t i, -1)

section
variable {po : Bool} {n m : Nat} {K : Nat → Nat → Int} {S0 : Nat → Nat → Int × Int} {a b c : Nat → Int}
theorem lineS_step (r t : Nat) : StepR po n t K (fun k => (lineS po n K S0 r k t).1) (fun k => (lineS po n K S0 r k t).2) (fun k => (lineS po n K S0 (r + 1) k t).1) (fun k => (lineS po n K S0 (r + 1) k t).2) := think_step
theorem lineS_ranged (hK : CostM n K) (h0 : ∀ k t, k < n → t < n → 0 ≤ (S0 k t).1 ∧ (S0 k t).1 ≤ 16) : ∀ r k t, k < n → t < n → 0 ≤ (lineS po n K S0 r k t).1 ∧ (lineS po n K S0 r k t).1 ≤ 16
  | 0, k, t, hk, ht => h0 k t hk ht
  | r + 1, k, t, hk, ht => (lineS_step (po := po) (K := K) (S0 := S0) (n := n) r t).ranged hK (fun k hk => lineS_ranged hK h0 r k t hk ht) k hk
theorem startS_ranged : ∀ k t, k < n → t < n → 0 ≤ (startS k t).1 ∧ (startS k t).1 ≤ 16 := fun k t hk ht => startF_ranged t n k hk
theorem line_inv (hr : Right n m a b c) {t : Nat} (ht : t < n) : ∀ r, LineInv n (costF m a b c) (rounds t a b c m (startF t) r) (fun k => (lineS po n (costF m a b c) startS r k t).1) (fun k => (lineS po n (costF m a b c) startS r k t).2)
  | 0 => ⟨fun _ _ => rfl, fun k i _ _ h => by
    have h' : (-1 : Int) = (i : Int) := h
    omega⟩
  | r + 1 => (line_inv hr ht r).step (cost_m hr) ht (rounds_ranged hr (startF_ranged t n) r) (rounds_k hr _ r) (fun i hi => rounds_falls hr r i hi) (fun i hi => (rounds_ranged hr (startF_ranged t n) (r + 1) i hi).1) (lineS_step r t)

/-- Behind as many steps as there are nodes, less one, all is right. -/
theorem line_settled (hr : Right n m a b c) {N : Nat} (hN : n ≤ N + 1) {i k : Nat} (hi : i < n) (hk : k < n) :
    (lineS po n (costF m a b c) startS N i k).1 = endF i a b c m k ∧
      (((lineS po n (costF m a b c) startS N i k).2 = -1 ∧ (k = i ∨ ¬ endF i a b c m k < 16)) ∨
        ∃ p : Nat, p < n ∧ (lineS po n (costF m a b c) startS N i k).2 = (p : Int) ∧ p ≠ i ∧ k ≠ i ∧ endF i a b c m k < 16 ∧ 1 ≤ costF m a b c i p ∧ costF m a b c i p < 16 ∧ endF p a b c m k + costF m a b c i p = endF i a b c m k) := by
  have hK := cost_m hr
  have hD := far_end hr hk
  have hE : ∀ q, q < n → endF k a b c m q = endF q a b c m k := fun q hq => hD.back hK hk hq (far_end hr hq)
  have h1 : (lineS po n (costF m a b c) startS N i k).1 = endF k a b c m i := by
    rw [← end_fewer hr hk hN i hi]
    exact (line_inv (po := po) hr hk N).eq i hi
  refine ⟨h1.trans (hE i hi), ?_⟩
  cases N with
  | zero =>
    have e : k = i := by omega
    exact .inl ⟨rfl, .inl e⟩
  | succ N =>
    have hf : ∀ q, q < n → endF k a b c m q ≤ (lineS po n (costF m a b c) startS N q k).1 ∧ (lineS po n (costF m a b c) startS N q k).1 ≤ 16 := fun q hq => by
      refine ⟨?_, (lineS_ranged hK startS_ranged N q k hq hk).2⟩
      rw [(line_inv (po := po) hr hk N).eq q hq]
      exact fixed_below (edge_good hr) (end_fixed hr) (fun r => rounds k a b c m (startF k) r) (fun r => rounds_round hr _ r) (fun _ _ => rfl) N q hq
    obtain ⟨h2, h3⟩ := (lineS_step (po := po) (n := n) (K := costF m a b c) (S0 := startS) N k).leads hK hD hf hi h1
    have h2' := h2 _ rfl
    rcases h2' with h4 | ⟨p, hp, h4, h5, h6, h7, h8, h9⟩
    · refine .inl ⟨h4, ?_⟩
      rcases h3.1 h4 with h | h
      · exact .inl h.symm
      · right
        rw [← hE i hi]
        omega
    · refine .inr ⟨p, hp, h4, h5, fun e => h6 e.symm, by rw [← hE i hi]; exact h9, hK.low i p hi hp (fun e => h5 e.symm), h7, ?_⟩
      rw [← hE p hp, ← hE i hi]
      exact h8
end

end Go.Proofs.YtlbdbfmgkappaaaDoor

/- The reference's line: NewLine. -/
namespace Go.Proofs.YtlbdbfmgkappaaaDoor
open Go.RowKit
set_option linter.unusedVariables false

/-- An append of one row that is a block of its own, in a region that draws its order. -/
theorem step_append_tab {w : World} {ops : Array Oper} {o : Oper} {a : Act} {K : Act → World → Prop} {Q : Exit → Act → World → Prop} {E : Prop} (hgd : o.guard = none) (s x : Operand)
    (ho : o.op = .call { callee := .builtin .append, args := #[s, x], argTypes := #[32, 32] })
    (w0 : World) (base : Nat) (v : Value) (i n : Nat) (f : Nat → Nat → Int) (hs : a.eval s = v) (hT : Tab w0 base v i n f) (hb0 : Below w0.heap.size w0 w)
    (b c : Nat) (hbn : w0.heap.size ≤ b) (hrow : RowP w b 3 n (fun j => .int .i64 (f i j))) (ad : Addr) (hx : a.eval x = .slice (some ad) 1 1)
    (hnew : ∀ j u, [Value.slice (some ⟨b, 0, none⟩) n c][j]? = some u → w.cell? (ad.add j) = some u) (hi : i ≤ 1000) (hbase : base ≤ w0.heap.size)
    (h : ∀ g cap w', Tab w' base (.slice (some ⟨g, 0, none⟩) (i + 1) cap) (i + 1) n f → Below base w w' → K (a.put o.dst (.slice (some ⟨g, 0, none⟩) (i + 1) cap)) w') :
    if Region.wanted o (yielded ops a.tmps) = true then Oper.wp Tryd.prog o a w K Q else E := by
  obtain ⟨B, C, hown, hr, hinj⟩ := hT
  obtain ⟨i0, hi0, hz0, hz1, hz2⟩ := info_parts infoRow
  have hown' := ownsRow_same hown (fun b _ hlt => hb0.block b hlt)
  have hbase' : base ≤ w.heap.size := Nat.le_trans hbase hb0.size
  refine step_append_lies w hgd s x 32 ho base 23 i0 _ 1 24 Tryd.underlying32 hi0 hz0 hz1 hz2 rfl (by decide) v i _ hs hown' ad 1 1 [Value.slice (some ⟨b, 0, none⟩) n c] hx rfl hnew (by simp [Value.oneCell']) (by omega) (by unfold maxLen; omega) (by omega) hbase' _ rfl ?_
  intro g cap w' ho1 hg1 _ _
  have hne : ∀ k t0 m F, RowP w k t0 m F → t0 = 3 → w'.heap[k]? = w.heap[k]? := by
    rintro k t0 m F hk rfl
    refine hg1.block k hk.lt fun e => ?_
    obtain ⟨cs, hcs, _⟩ := hk
    rcases hown'.2 with ⟨hv, _⟩ | ⟨g, cap, cur, hv, hb, hg, hrest⟩
    · rw [hv] at e; cases e
    · rw [hv] at e
      have e' : k = g := by simpa [Value.ownBlock] using e
      subst e'
      rw [hcs] at hg
      simp at hg
  refine h g cap w' ⟨fun r => if r = i then b else B r, fun r => if r = i then c else C r, ?_, fun r hlt => ?_, fun r q hrl hq e => ?_⟩ ?_
  · rw [List.range_succ, List.map_append]
    have e1 : (List.range i).map (fun r => Value.slice (some ⟨if r = i then b else B r, 0, none⟩) n (if r = i then c else C r)) = (List.range i).map fun r => .slice (some ⟨B r, 0, none⟩) n (C r) := by
      apply List.map_congr_left
      intro j hj
      have := List.mem_range.1 hj
      rw [if_neg (by omega), if_neg (by omega)]
    rw [e1]
    simpa using ho1
  · by_cases hri : r = i
    · subst hri
      simp only [if_true]
      exact ⟨by omega, hrow.of_block (hne b _ _ _ hrow rfl)⟩
    · simp only [if_neg hri]
      obtain ⟨h1, h2⟩ := hr r (by omega)
      have h3 := h2.of_block (hb0.block _ h2.lt)
      exact ⟨h1, h3.of_block (hne _ _ _ _ h3 rfl)⟩
  · simp only at e
    by_cases hri : r = i <;> by_cases hqi : q = i
    · omega
    · rw [if_pos hri, if_neg hqi] at e
      have := (hr q (by omega)).2.lt
      omega
    · rw [if_neg hri, if_pos hqi] at e
      have := (hr r (by omega)).2.lt
      omega
    · rw [if_neg hri, if_neg hqi] at e
      exact hinj r q (by omega) (by omega) e
  · refine ⟨hg1.os, hg1.tape, hg1.output, hg1.size, fun k hk => hg1.block k (by omega) fun e => ?_⟩
    rcases hown'.2 with ⟨hv, _⟩ | ⟨g, cap, cur, hv, hb, hg, hrest⟩
    · rw [hv] at e; cases e
    · rw [hv] at e
      have e' : k = g := by simpa [Value.ownBlock] using e
      omega

/-- Two tables, the second made behind the first. -/
structure Apart (w : World) (b0 mid gF : Nat) (vF vN : Value) (BF CF BN CN : Nat → Nat) (n : Nat) (F G : Nat → Nat → Int) : Prop where
  one : TabAt w b0 vF BF CF n n F
  out : ∃ c, vF = .slice (some ⟨gF, 0, none⟩) n c
  low : gF < mid ∧ ∀ r, r < n → BF r < mid
  le : b0 ≤ mid
  two : TabAt w mid vN BN CN n n G

section
variable {w w' : World} {b0 mid gF n : Nat} {vF vN v : Value} {BF CF BN CN B C : Nat → Nat} {F G F' G' f : Nat → Nat → Int}
theorem TabAt.far (h : TabAt w b0 v B C n n f) {g c : Nat} (hv : v = .slice (some ⟨g, 0, none⟩) n c) {p : Addr} (hg : g ≠ p.block) (hB : ∀ r, r < n → B r ≠ p.block) (x : Value) : TabAt (w.setCell p x) b0 v B C n n f := by
  refine ⟨⟨h.own.1, ?_⟩, fun r hr => ⟨(h.row r hr).1, (h.row r hr).2.setOther (hB r hr) _⟩, h.inj⟩
  rcases h.own.2 with h' | ⟨g', cap, cur, hv', hb, hg', hrest⟩
  · exact .inl h'
  · have e : g = g' := by
      rw [hv] at hv'
      simp at hv'
      exact hv'.1
    subst e
    exact .inr ⟨g, cap, cur, hv', hb, (Below.heap_setCell _ _ _ _ hg).trans hg', hrest⟩
theorem Apart.below (h : Apart w b0 mid gF vF vN BF CF BN CN n F G) (hb : Below w.heap.size w w') : Apart w' b0 mid gF vF vN BF CF BN CN n F G := ⟨h.one.below hb, h.out, h.low, h.le, h.two.below hb⟩
theorem Apart.congr (h : Apart w b0 mid gF vF vN BF CF BN CN n F G) (e : ∀ r j, r < n → j < n → F r j = F' r j ∧ G r j = G' r j) : Apart w b0 mid gF vF vN BF CF BN CN n F' G' :=
  ⟨h.one.congr fun r j hr hj => (e r j hr hj).1, h.out, h.low, h.le, h.two.congr fun r j hr hj => (e r j hr hj).2⟩
theorem Apart.same (h : Apart w b0 mid gF vF vN BF CF BN CN n F G) (hs : ∀ b, b0 ≤ b → b < w.heap.size → w'.heap[b]? = w.heap[b]?) : Apart w' b0 mid gF vF vN BF CF BN CN n F G :=
  ⟨h.one.same hs, h.out, h.low, h.le, h.two.same fun b hb => hs b (Nat.le_trans h.le hb)⟩
theorem Apart.setF (h : Apart w b0 mid gF vF vN BF CF BN CN n F G) {r : Nat} (hr : r < n) (k : Nat) (x : Int) : Apart (w.setCell ⟨BF r, k, none⟩ (.int .i64 x)) b0 mid gF vF vN BF CF BN CN n (fun p q => if p = r ∧ q = k then x else F p q) G :=
  ⟨h.one.set hr k x, h.out, h.low, h.le, h.two.same fun b hb _ => Below.heap_setCell _ _ _ _ (by
    have := h.low.2 r hr
    show b ≠ BF r
    omega)⟩
theorem Apart.setG (h : Apart w b0 mid gF vF vN BF CF BN CN n F G) {r : Nat} (hr : r < n) (k : Nat) (x : Int) : Apart (w.setCell ⟨BN r, k, none⟩ (.int .i64 x)) b0 mid gF vF vN BF CF BN CN n F (fun p q => if p = r ∧ q = k then x else G p q) := by
  obtain ⟨c, hv⟩ := h.out
  have h1 := (h.two.row r hr).1
  have h2 := h.low
  exact ⟨h.one.far hv (by show gF ≠ BN r; omega) (fun q hq => by have := h2.2 q hq; show BF q ≠ BN r; omega) _, h.out, h.low, h.le, h.two.set hr k x⟩
end

set_option maxRecDepth 100000 in
set_option maxHeartbeats 2000000 in
theorem newLine_walk (n : Nat) (x : Int) (hx : x = (n : Int)) (A : Option Addr) (m cp : Nat) (po : Bool) (w : World) (h1 : 1 ≤ n) (h8 : n ≤ 8) :
    Calls Tryd.prog 30 #[.int .i64 x, .slice A m cp, .bool po] w fun e w' => ∃ vF vN mid gF BF CF BN CN, e = .returned (.agg #[.slice A m cp, .bool po, vF, vN]) ∧ Apart w' (w.heap.size + 1) mid gF vF vN BF CF BN CN n oneF (fun _ _ => -1) ∧ Below w.heap.size w w' := by
  subst hx
  have h1' : (1 : Int) ≤ n := by omega
  have h8' : (n : Int) ≤ 8 := by omega
  go_enter Tryd.func30, Tryd.ntmps30
  go_wp2_with fail
  have hcall := oneOf_walk n n rfl (w.alloc (.cells #[.slice none 0 0, .bool false, .slice none 0 0, .slice none 0 0] 65)) h1 h8
  refine hcall.mono ?_
  clear hcall
  rintro e w1 ⟨vF, rfl, hT, hb⟩
  have hsz : (w.alloc (.cells #[Value.slice none 0 0, .bool false, .slice none 0 0, .slice none 0 0] 65)).heap.size = w.heap.size + 1 := by simp
  rw [hsz] at hT hb
  obtain ⟨BF, CF, hA⟩ := hT.at_
  obtain ⟨gF, cF, rfl, -, hg2, -, -⟩ := hA.cells h1
  have HT := Lib.hid hA
  have HGF := Lib.hid hg2
  have hrs : Blk w1 w.heap.size 65 #[.slice none 0 0, .bool false, .slice none 0 0, .slice none 0 0] := (Blk.new w _ _).below hb (Nat.lt_succ_self _)
  have HRS := Lib.hid hrs
  have HB : Hid (Below w.heap.size w w1) := ((Below.refl _ _).alloc (Nat.le_refl _) _).trans (hb.mono (by omega))
  clear hT hA hg2 hb hsz hrs
  go_wp2_with fail
  obtain ⟨p, hp⟩ : ∃ p, w1.heap.size = p := ⟨_, rfl⟩
  have hpb : Blk (w1.alloc (.cells #[.slice A m cp, .bool po, (.slice (some ⟨gF, 0, none⟩) n cF), .slice none 0 0] 65)) p 65 #[.slice A m cp, .bool po, (.slice (some ⟨gF, 0, none⟩) n cF), .slice none 0 0] := by
    have := Blk.new w1 65 #[.slice A m cp, .bool po, (.slice (some ⟨gF, 0, none⟩) n cF), .slice none 0 0]
    rw [hp] at this
    exact this
  have HPB := Lib.hid hpb
  have HB2 : Hid (Below w1.heap.size w1 (w1.alloc (.cells #[.slice A m cp, .bool po, (.slice (some ⟨gF, 0, none⟩) n cF), .slice none 0 0] 65))) := (Below.refl _ _).alloc (Nat.le_refl _) _
  have hsz : p + 1 ≤ (w1.alloc (.cells #[.slice A m cp, .bool po, (.slice (some ⟨gF, 0, none⟩) n cF), .slice none 0 0] 65)).heap.size := by simp [hp]
  have HSZ := Lib.hid hsz
  rw [hp]
  have HP := Lib.hid hp
  clear hp hsz hpb
  obtain ⟨wa, hwa⟩ : ∃ wa, w1.alloc (.cells #[.slice A m cp, .bool po, (.slice (some ⟨gF, 0, none⟩) n cF), .slice none 0 0] 65) = wa := ⟨_, rfl⟩
  rw [hwa] at HPB HB2 HSZ ⊢
  clear hwa
  go_loopw [8] (fun q wr => ∃ i : Nat, i ≤ n ∧ q = .int .i64 i ∧ ∃ v, Blk wr p 65 #[.slice A m cp, .bool po, (.slice (some ⟨gF, 0, none⟩) n cF), v] ∧ Tab wr (p + 1) v i n (fun _ _ => -1) ∧ Below w1.heap.size w1 wr ∧ p + 1 ≤ wr.heap.size) (fun q _ => n - (intOf q).toNat)
  case atStart => exact ⟨0, by omega, rfl, _, HPB.out, Tab.nil _ _ _ _, HB2.out, HSZ.out⟩
  case round =>
    obtain ⟨i, hi, rfl, v, hbl, hT, hb, hsz⟩ := hrel
    have HBL := Lib.hid hbl
    have HT2 := Lib.hid hT
    have HB3 := Lib.hid hb
    have HS := Lib.hid hsz
    clear hT hb hsz HPB HB2 HSZ
    by_cases hin : i < n
    · have hin' : (i : Int) < n := by omega
      have cv := hbl.cell 3
      simp at cv
      have hlt := hbl.lt
      clear hbl
      have HLT := Lib.hid hlt
      clear hlt
      go_wp2_with fail
      go_region_law (first
        | (go_simp
           refine (refRepeat_walk (-1) n n rfl _ (by omega)).mono ?_
           rintro e w3 ⟨v3, rfl, hV3, hb3⟩
           obtain ⟨g3, c3, rfl, hg3, hrow3⟩ := hV3.row h1
           have cv3 := (hb3.cell (p := ⟨p, 3, none⟩) HLT.out).trans cv
           have cv3a : (w3.alloc (.cells #[.slice (some ⟨g3, 0, none⟩) n c3] 23)).cell? ⟨p, 3, none⟩ = some v := (((Below.refl w3.heap.size w3).alloc (Nat.le_refl _) _).cell (World.block_lt_of_cell? w3 _ cv3)).trans cv3
           have HR3 := Lib.hid hrow3
           have HG3 := Lib.hid hg3
           have HB4 := Lib.hid hb3
           clear hV3 hb3 hrow3 hg3)
        | (refine step_append_tab rfl (.tmp 20) (.tmp 23) rfl wr (p + 1) _ i n (fun _ _ => -1) rfl HT2.out ?_ g3 c3 ?_ ?_ _ rfl (cell_new_at _ _ _ rfl) (by omega) HS.out ?_
           · exact (((Below.refl wr.heap.size wr).drew).trans HB4.out).alloc (by have := HB4.out.size; exact this) _
           · exact HG3.out
           · exact HR3.out.alloc _
           intro g4 cap4 w4 hT4 hb4
           have HB5 : Hid (Below (p + 1) wr w4) := (((((Below.refl wr.heap.size wr).drew).trans HB4.out).alloc (by have := HB4.out.size; exact this) _).mono HS.out).trans hb4
           have HBL4 := Lib.hid (HBL.out.below HB5.out (Nat.lt_succ_self p))
           have cv4 := HBL4.out.cell 3
           simp at cv4
           have fv4 := HBL4.out.frozen 3
           have HT4 := Lib.hid hT4
           clear hT4 hb4 cv3 cv3a))
      all_goals
        have HBL5 : Hid (Blk (w4.setCell ⟨p, 3, none⟩ (.slice (some ⟨g4, 0, none⟩) (i + 1) cap4)) p 65 #[.slice A m cp, .bool po, (.slice (some ⟨gF, 0, none⟩) n cF), .slice (some ⟨g4, 0, none⟩) (i + 1) cap4]) := by
          have := HBL4.out.set_ 3 (.slice (some ⟨g4, 0, none⟩) (i + 1) cap4)
          simp at this
          exact this
        have HT5 : Hid (Tab (w4.setCell ⟨p, 3, none⟩ (.slice (some ⟨g4, 0, none⟩) (i + 1) cap4)) (p + 1) (.slice (some ⟨g4, 0, none⟩) (i + 1) cap4) (i + 1) n (fun _ _ => -1)) := HT4.out.same fun b hb _ => Below.heap_setCell _ _ _ _ (by show b ≠ p; omega)
        have HB6 : Hid (Below w1.heap.size w1 (w4.setCell ⟨p, 3, none⟩ (.slice (some ⟨g4, 0, none⟩) (i + 1) cap4))) := (HB3.out.trans (HB5.out.mono (by rw [HP.out]; omega))).setCell (by show w1.heap.size ≤ p; rw [HP.out]; exact Nat.le_refl _) _
        have HS6 : Hid (p + 1 ≤ (w4.setCell ⟨p, 3, none⟩ (.slice (some ⟨g4, 0, none⟩) (i + 1) cap4)).heap.size) := by
          show p + 1 ≤ _
          have := HB5.out.size
          have := HS.out
          simp
          omega
        clear HBL HT2 HB3 HS HB4 HB5 HT4
        go_wp2_with fail
        go_roundw
        case rel => exact ⟨i + 1, by omega, by go_num, _, HBL5.out, HT5.out, HB6.out, HS6.out⟩
        case measure => simp [intOf]; omega
    · have ei : i = n := by omega
      subst ei
      have k0 := hbl.cell 0
      have k1 := hbl.cell 1
      have k2 := hbl.cell 2
      have k3 := hbl.cell 3
      simp at k0 k1 k2 k3
      obtain ⟨BN, CN, hA⟩ := HT2.out.at_
      obtain ⟨gN, cN, rfl, -, -, -, -⟩ := hA.cells h1
      have hrs := HRS.out.below HB3.out HRS.out.lt
      have r0 := hrs.cell 0
      have r1 := hrs.cell 1
      have r2 := hrs.cell 2
      have r3 := hrs.cell 3
      have q0 := hrs.frozen 0
      have q1 := hrs.frozen 1
      have q2 := hrs.frozen 2
      have q3 := hrs.frozen 3
      simp at r0 r1 r2 r3
      have HAN := Lib.hid hA
      obtain ⟨q, hq⟩ : ∃ q, w.heap.size = q := ⟨_, rfl⟩
      have hs0 := hrs.set_ 0 (.slice A m cp)
      have hs1 := hs0.set_ 1 (.bool po)
      have hs2 := hs1.set_ 2 (.slice (some ⟨gF, 0, none⟩) i cF)
      have hs3 := hs2.set_ 3 (.slice (some ⟨gN, 0, none⟩) i cN)
      simp at hs3
      have HS3 := Lib.hid hs3
      have hap : Apart wr (w.heap.size + 1) (p + 1) gF (.slice (some ⟨gF, 0, none⟩) i cF) (.slice (some ⟨gN, 0, none⟩) i cN) BF CF BN CN i oneF (fun _ _ => -1) :=
        ⟨HT.out.below HB3.out, ⟨_, rfl⟩, ⟨by have := HGF.out; have := HP.out; omega, fun r hr => by have := (HT.out.row r hr).2.lt; have := HP.out; omega⟩, by have := HB.out.size; have := HP.out; omega, HAN.out⟩
      have HAP := Lib.hid hap
      have HBW := Lib.hid (HB.out.trans (HB3.out.mono HB.out.size))
      clear hbl hA hrs hs0 hs1 hs2 hs3 hap hq
      go_wp2_with fail
      refine bodyPost_ret (results_cell_row rfl _ _ _ _ _ (0, 0) _ rfl HS3.out Tryd.underlying65 rfl (by kernel_rfl)) rfl ?_
      refine ⟨_, _, _, _, _, _, _, _, rfl, HAP.out.same fun b hb _ => ?_, ?_⟩
      · rw [Below.heap_setCell _ _ _ _ (by show b ≠ w.heap.size; omega), Below.heap_setCell _ _ _ _ (by show b ≠ w.heap.size; omega), Below.heap_setCell _ _ _ _ (by show b ≠ w.heap.size; omega), Below.heap_setCell _ _ _ _ (by show b ≠ w.heap.size; omega)]
      · exact (((HBW.out.setCell (Nat.le_refl _) _).setCell (Nat.le_refl _) _).setCell (Nat.le_refl _) _).setCell (Nat.le_refl _) _

end Go.Proofs.YtlbdbfmgkappaaaDoor

/- The walks of the reference's LessLink and of waywardensame.Links. -/
namespace Go.Proofs.YtlbdbfmgkappaaaDoor
open Go.RowKit
set_option linter.unusedVariables false

/-- An append of one link, in a plain region. -/
theorem wpList_append_lnk {w : World} {ops : Array Oper} {rest : List Oper} {o : Oper} {act : Act} {Q : Exit → Act → World → Prop} (hgd : o.guard = none) (s x : Operand)
    (ho : o.op = .call { callee := .builtin .append, args := #[s, x], argTypes := #[22, 22] })
    (base : Nat) (v : Value) (n : Nat) (a b c : Nat → Int) (hs : act.eval s = v) (hT : OwnLk w base v n a b c) (p q r : Int) (ad : Addr) (hx : act.eval x = .slice (some ad) 1 1)
    (hnew : ∀ j u, [Value.int .i64 p, .int .i64 q, .int .i64 r][j]? = some u → w.cell? (ad.add j) = some u) (hn : n ≤ 1000000000000) (hbase : base ≤ w.heap.size)
    (h : ∀ g cap w', OwnLk w' base (.slice (some ⟨g, 0, none⟩) (n + 1) cap) (n + 1) (upd a n p) (upd b n q) (upd c n r) → Below base w w' → wpList Tryd.prog ops Q rest (act.put o.dst (.slice (some ⟨g, 0, none⟩) (n + 1) cap)) w') :
    wpList Tryd.prog ops Q (o :: rest) act w := by
  obtain ⟨i0, hi0, hz0, hz1, hz2⟩ := info_parts infoLink
  refine wpList_append_lies w hgd s x 22 ho base 31 i0 _ 3 24 Tryd.underlying22 hi0 hz0 hz1 hz2 rfl (by decide) v n _ hs hT ad 1 1 [.int .i64 p, .int .i64 q, .int .i64 r] hx rfl hnew (by simp [Value.oneCell']) (by omega) (by unfold maxLen; omega) (by omega) hbase _ rfl ?_
  intro g cap w' h1 h2 h3 _
  rw [links_snoc] at h1
  refine h g cap w' h1 ⟨h2.os, h2.tape, h2.output, h2.size, fun k hk => h2.block k (by omega) fun e => ?_⟩
  rcases hT.form with ⟨_, rfl⟩ | ⟨g', c', rfl, hb, _⟩
  · cases e
  · have e' : k = g' := by simpa [Value.ownBlock] using e
    omega

/-- How many of the first r are left without the one at jj. -/
def leftN (jj r : Nat) : Nat := if r ≤ jj then r else r - 1

theorem upd_dropF {jj r : Nat} (f : Nat → Int) (hne : r ≠ jj) (i : Nat) (hi : i < leftN jj r + 1) : upd (dropF jj f) (leftN jj r) (f r) i = dropF jj f i := by
  unfold leftN at hi ⊢
  by_cases h : r ≤ jj
  · rw [if_pos h] at hi ⊢
    by_cases e : i = r
    · subst e; rw [upd_same]; unfold dropF; rw [if_pos (by omega)]
    · rw [upd_other _ _ e]
  · rw [if_neg h] at hi ⊢
    by_cases e : i = r - 1
    · subst e; rw [upd_same]; unfold dropF; rw [if_neg (by omega), show r - 1 + 1 = r by omega]
    · rw [upd_other _ _ e]

theorem leftN_succ {jj r : Nat} (hne : r ≠ jj) : leftN jj r + 1 = leftN jj (r + 1) := by
  unfold leftN
  by_cases h : r ≤ jj
  · rw [if_pos h, if_pos (by omega)]
  · rw [if_neg h, if_neg (by omega)]; omega

theorem leftN_at (jj : Nat) : leftN jj (jj + 1) = leftN jj jj := by
  unfold leftN
  rw [if_neg (by omega), if_pos (by omega)]; omega

theorem leftN_le (jj r : Nat) : leftN jj r ≤ r := by
  unfold leftN
  split <;> omega

set_option maxRecDepth 100000 in
set_option maxHeartbeats 2000000 in
theorem lessLink_walk (A : Option Addr) (m cp jj : Nat) (a b c : Nat → Int) (u v : Int) (w : World) (hl : Lnk w A m a b c) (hm : m ≤ 1000000000) (hj : ∀ i, i < m → (Mt a b i u v ↔ i = jj)) :
    Calls Tryd.prog 63 #[.slice A m cp, .int .i64 u, .int .i64 v] w fun e w' => ∃ z, e = .returned z ∧ OwnLk w' w.heap.size z (leftN jj m) (dropF jj a) (dropF jj b) (dropF jj c) ∧ Below w.heap.size w w' := by
  have HL := Lib.hid hl
  have HJ := Lib.hid hj
  clear hl hj
  go_enter Tryd.func63, Tryd.ntmps63
  go_wp2_with fail
  go_loopw [7, 8] (fun z i wr => ∃ r : Nat, r ≤ m ∧ i = .int .i64 r ∧ OwnLk wr w.heap.size z (leftN jj r) (dropF jj a) (dropF jj b) (dropF jj c) ∧ Below w.heap.size w wr) (fun _ i _ => m - (intOf i).toNat)
  case atStart => exact ⟨0, by omega, rfl, OwnLk.nil _ _ _ _ _, Below.refl _ _⟩
  case round =>
    obtain ⟨r, hr, rfl, hO, hb⟩ := hrel
    have HO := Lib.hid hO
    have HB := Lib.hid hb
    clear hO hb
    by_cases hlt : r < m
    · have hlt' : (r : Int) < m := by omega
      obtain ⟨ad, rfl, hc0, hc1, hc2⟩ := HL.out.cells HB.out r hlt
      by_cases hmt : Mt a b r u v
      · have ej : r = jj := (HJ.out r hlt).1 hmt
        have HO1 : Hid (OwnLk wr w.heap.size u7 (leftN jj (r + 1)) (dropF jj a) (dropF jj b) (dropF jj c)) := by
          have := HO.out
          rw [ej] at this ⊢
          rw [leftN_at]
          exact this
        clear ej
        by_cases hfst : a r = u ∧ b r = v
        · obtain ⟨e1, e2⟩ := hfst
          rw [e1] at hc0
          rw [e2] at hc1
          clear e1 e2 hmt
          go_wp2_with fail
          go_roundw
          case rel => exact ⟨r + 1, by omega, by go_num, HO1.out, HB.out⟩
          case measure => simp [intOf]; omega
        · obtain ⟨e1, e2⟩ := hmt.resolve_left hfst
          have hd3 : (v == u) = false := beq_false_of_ne fun e => hfst ⟨by omega, by omega⟩
          rw [e1] at hc0
          rw [e2] at hc1
          clear e1 e2 hmt hfst
          go_wp2_with fail
          go_roundw
          case rel => exact ⟨r + 1, by omega, by go_num, HO1.out, HB.out⟩
          case measure => simp [intOf]; omega
      · have ej : r ≠ jj := fun e => hmt ((HJ.out r hlt).2 e)
        have hln := leftN_le jj r
        have EJ := Lib.hid ej
        obtain ⟨p, hp⟩ : ∃ p, leftN jj r = p := ⟨_, rfl⟩
        have HP := Lib.hid hp
        rw [hp] at hln
        have HO1 : Hid (OwnLk wr w.heap.size u7 p (dropF jj a) (dropF jj b) (dropF jj c)) := by
          have := HO.out
          rw [hp] at this
          exact this
        clear hp ej HO
        by_cases e1 : a r = u
        · have e2 : b r ≠ v := fun e => hmt (.inl ⟨e1, e⟩)
          have hd2 : (b r == v) = false := beq_false_of_ne e2
          have HE1 := Lib.hid e1
          rw [e1] at hc0
          by_cases e3 : u = v
          · have e4 : b r ≠ u := fun e => hmt (.inr ⟨by omega, e⟩)
            have hd4 : (b r == u) = false := beq_false_of_ne e4
            subst e3
            clear e1 e2 hmt e4
            go_wp2_with (at_builtin; refine wpList_append_lnk rfl (.tmp 50) (.tmp 55) rfl w.heap.size _ p _ _ _ rfl (HO1.out.alloc _) u (b r) (c r) ⟨wr.heap.size, 0, none⟩ rfl (cell_new3_at _ _ _ _ _ rfl) (by omega) (Nat.le_trans HB.out.size (by simp)) ?_)
            intro g cap w6 hO6 hb6
            have HO6 : Hid (OwnLk w6 w.heap.size (.slice (some ⟨g, 0, none⟩) (p + 1) cap) (leftN jj (r + 1)) (dropF jj a) (dropF jj b) (dropF jj c)) := by
              have h1 := upd_dropF a EJ.out
              have h2 := upd_dropF b EJ.out
              have h3 := upd_dropF c EJ.out
              rw [HP.out] at h1 h2 h3
              have h4 := leftN_succ EJ.out
              rw [HP.out] at h4
              rw [← HE1.out] at hO6
              rw [← h4]
              exact hO6.congr h1 h2 h3
            have HB6 := Lib.hid ((HB.out.alloc HB.out.size _).trans hb6)
            clear hO6 hb6
            go_wp2_with fail
            go_roundw
            case rel => exact ⟨r + 1, by omega, by go_num, HO6.out, HB6.out⟩
            case measure => simp [intOf]; omega
          · have hd3 : (u == v) = false := beq_false_of_ne e3
            clear e1 e2 hmt e3
            go_wp2_with (at_builtin; refine wpList_append_lnk rfl (.tmp 50) (.tmp 55) rfl w.heap.size _ p _ _ _ rfl (HO1.out.alloc _) u (b r) (c r) ⟨wr.heap.size, 0, none⟩ rfl (cell_new3_at _ _ _ _ _ rfl) (by omega) (Nat.le_trans HB.out.size (by simp)) ?_)
            intro g cap w6 hO6 hb6
            have HO6 : Hid (OwnLk w6 w.heap.size (.slice (some ⟨g, 0, none⟩) (p + 1) cap) (leftN jj (r + 1)) (dropF jj a) (dropF jj b) (dropF jj c)) := by
              have h1 := upd_dropF a EJ.out
              have h2 := upd_dropF b EJ.out
              have h3 := upd_dropF c EJ.out
              rw [HP.out] at h1 h2 h3
              have h4 := leftN_succ EJ.out
              rw [HP.out] at h4
              rw [← HE1.out] at hO6
              rw [← h4]
              exact hO6.congr h1 h2 h3
            have HB6 := Lib.hid ((HB.out.alloc HB.out.size _).trans hb6)
            clear hO6 hb6
            go_wp2_with fail
            go_roundw
            case rel => exact ⟨r + 1, by omega, by go_num, HO6.out, HB6.out⟩
            case measure => simp [intOf]; omega
        · have hd1 : (a r == u) = false := beq_false_of_ne e1
          by_cases e3 : a r = v
          · have e2 : b r ≠ u := fun e => hmt (.inr ⟨e3, e⟩)
            have hd2 : (b r == u) = false := beq_false_of_ne e2
            have HE1 := Lib.hid e3
            rw [e3] at hc0 hd1
            clear e1 e2 e3 hmt
            go_wp2_with (at_builtin; refine wpList_append_lnk rfl (.tmp 50) (.tmp 55) rfl w.heap.size _ p _ _ _ rfl (HO1.out.alloc _) v (b r) (c r) ⟨wr.heap.size, 0, none⟩ rfl (cell_new3_at _ _ _ _ _ rfl) (by omega) (Nat.le_trans HB.out.size (by simp)) ?_)
            intro g cap w6 hO6 hb6
            have HO6 : Hid (OwnLk w6 w.heap.size (.slice (some ⟨g, 0, none⟩) (p + 1) cap) (leftN jj (r + 1)) (dropF jj a) (dropF jj b) (dropF jj c)) := by
              have h1 := upd_dropF a EJ.out
              have h2 := upd_dropF b EJ.out
              have h3 := upd_dropF c EJ.out
              rw [HP.out] at h1 h2 h3
              have h4 := leftN_succ EJ.out
              rw [HP.out] at h4
              rw [← HE1.out] at hO6
              rw [← h4]
              exact hO6.congr h1 h2 h3
            have HB6 := Lib.hid ((HB.out.alloc HB.out.size _).trans hb6)
            clear hO6 hb6
            go_wp2_with fail
            go_roundw
            case rel => exact ⟨r + 1, by omega, by go_num, HO6.out, HB6.out⟩
            case measure => simp [intOf]; omega
          · have hd2 : (a r == v) = false := beq_false_of_ne e3
            clear e1 e3 hmt
            go_wp2_with (at_builtin; refine wpList_append_lnk rfl (.tmp 50) (.tmp 55) rfl w.heap.size _ p _ _ _ rfl (HO1.out.alloc _) (a r) (b r) (c r) ⟨wr.heap.size, 0, none⟩ rfl (cell_new3_at _ _ _ _ _ rfl) (by omega) (Nat.le_trans HB.out.size (by simp)) ?_)
            intro g cap w6 hO6 hb6
            have HO6 : Hid (OwnLk w6 w.heap.size (.slice (some ⟨g, 0, none⟩) (p + 1) cap) (leftN jj (r + 1)) (dropF jj a) (dropF jj b) (dropF jj c)) := by
              have h1 := upd_dropF a EJ.out
              have h2 := upd_dropF b EJ.out
              have h3 := upd_dropF c EJ.out
              rw [HP.out] at h1 h2 h3
              have h4 := leftN_succ EJ.out
              rw [HP.out] at h4
              rw [← h4]
              exact hO6.congr h1 h2 h3
            have HB6 := Lib.hid ((HB.out.alloc HB.out.size _).trans hb6)
            clear hO6 hb6
            go_wp2_with fail
            go_roundw
            case rel => exact ⟨r + 1, by omega, by go_num, HO6.out, HB6.out⟩
            case measure => simp [intOf]; omega
    · obtain rfl : r = m := by omega
      go_wp2_with fail
      go_ret
      exact ⟨_, rfl, HO.out, HB.out⟩

end Go.Proofs.YtlbdbfmgkappaaaDoor

/- A slice of slices that the call itself makes by appends, each row of its own length. -/
namespace Go.Proofs.YtlbdbfmgkappaaaDoor
open Go.RowKit
set_option linter.unusedVariables false

/-- v has i rows, row r of L r numbers, f r of the index. -/
def Rag (w : World) (base : Nat) (v : Value) (i : Nat) (L : Nat → Nat) (f : Nat → Nat → Int) : Prop :=
  ∃ V : Nat → Value, w.ownsRow base 23 1 v i ((List.range i).map V) ∧ ∀ r, r < i → OwnV w base (V r) (L r) (f r)

section
variable {w w' : World} {base base' : Nat} {v : Value} {i : Nat} {L : Nat → Nat} {f : Nat → Nat → Int}
theorem OwnV.lift {n : Nat} {f : Nat → Int} (h : OwnV w base v n f) (hb : base' ≤ base) : OwnV w base' v n f := by
  refine ⟨h.1, ?_⟩
  rcases h.2 with h' | ⟨q, cap, cur, hv, hg, hrest⟩
  · exact .inl h'
  · exact .inr ⟨q, cap, cur, hv, Nat.le_trans hb hg, hrest⟩
theorem Rag.nil (w : World) (base : Nat) (L : Nat → Nat) (f : Nat → Nat → Int) : Rag w base (.slice none 0 0) 0 L f := ⟨fun _ => .slice none 0 0, World.ownsRow_nil _ _ _ _, fun r hr => absurd hr (by omega)⟩
theorem Rag.same (h : Rag w base v i L f) (hs : ∀ b, base ≤ b → b < w.heap.size → w'.heap[b]? = w.heap[b]?) : Rag w' base v i L f := by
  obtain ⟨V, h1, h2⟩ := h
  exact ⟨V, ownsRow_same h1 hs, fun r hr => (h2 r hr).same hs⟩
theorem Rag.below (h : Rag w base v i L f) (hb : Below w.heap.size w w') : Rag w' base v i L f := h.same fun b _ hlt => hb.block b hlt
theorem Rag.alloc (h : Rag w base v i L f) (o : Obj) : Rag (w.alloc o) base v i L f := h.below ((Below.refl _ _).alloc (Nat.le_refl _) o)
theorem Rag.drewN (h : Rag w base v i L f) (k : Nat) : Rag (w.drewN k) base v i L f := h
theorem Rag.lift (h : Rag w base v i L f) (hb : base' ≤ base) : Rag w base' v i L f := by
  obtain ⟨V, ⟨h0, h1⟩, h2⟩ := h
  refine ⟨V, ⟨h0, ?_⟩, fun r hr => (h2 r hr).lift hb⟩
  rcases h1 with h' | ⟨q, cap, cur, hv, hg, hrest⟩
  · exact .inl h'
  · exact .inr ⟨q, cap, cur, hv, Nat.le_trans hb hg, hrest⟩
/-- As a table to be read. -/
theorem Rag.mat (h : Rag w base v i L f) : ∃ A c, v = .slice A i c ∧ Mat w A i L f := by
  obtain ⟨V, h1, h2⟩ := h
  rcases h1.2 with ⟨hv, h0⟩ | ⟨g, cap, cur, hv, hb, hg, hnc, hcm, hcs, htake⟩
  · subst h0
    exact ⟨none, 0, hv, fun r hr => absurd hr (by omega)⟩
  · refine ⟨some ⟨g, 0, none⟩, cap, hv, fun r hr => ?_⟩
    obtain ⟨A, c, e, hvec⟩ := (h2 r hr).vec
    refine ⟨_, A, c, rfl, (Array.getElem?_eq_some_iff.1 hg).1, ?_, hvec⟩
    rw [Addr.add_lit, Nat.zero_add, ← e]
    have e2 : (cur.toList.take (i * 1))[r]? = ((List.range i).map V)[r]? := by rw [htake]
    rw [List.getElem?_take, if_pos (by omega)] at e2
    have e3 : cur[r]? = some (V r) := by simpa [hr] using e2
    simp [World.cell?, hg, e3]
/-- It lies in a block of its own, not nil. -/
theorem Rag.form (h1 : 1 ≤ i) (h : Rag w base v i L f) : ∃ g c, v = .slice (some ⟨g, 0, none⟩) i c ∧ base ≤ g ∧ g < w.heap.size := by
  obtain ⟨V, h2, -⟩ := h
  rcases h2.2 with ⟨hv, h0⟩ | ⟨g, cap, cur, hv, hb, hg, hnc, hcm, hcs, htake⟩
  · omega
  · exact ⟨g, cap, hv, hb, (Array.getElem?_eq_some_iff.1 hg).1⟩
end

/-- An append of one row. -/
theorem wpList_append_rag {w : World} {ops : Array Oper} {rest : List Oper} {o : Oper} {a : Act} {Q : Exit → Act → World → Prop} (hgd : o.guard = none) (s x : Operand)
    (ho : o.op = .call { callee := .builtin .append, args := #[s, x], argTypes := #[32, 32] })
    (base : Nat) (v : Value) (i : Nat) (L : Nat → Nat) (f : Nat → Nat → Int) (hs : a.eval s = v) (hT : Rag w base v i L f)
    (u : Value) (hrow : OwnV w base u (L i) (f i)) (ad : Addr) (hx : a.eval x = .slice (some ad) 1 1)
    (hnew : ∀ j u', [u][j]? = some u' → w.cell? (ad.add j) = some u') (hi : i ≤ 1000000000000) (hbase : base ≤ w.heap.size)
    (h : ∀ v' w', Rag w' base v' (i + 1) L f → Below base w w' → wpList Tryd.prog ops Q rest (a.put o.dst v') w') :
    wpList Tryd.prog ops Q (o :: rest) a w := by
  obtain ⟨V, hown, hr⟩ := hT
  obtain ⟨i0, hi0, hz0, hz1, hz2⟩ := info_parts infoRow
  have hu1 : u.oneCell' = true := by
    rcases hrow.form with ⟨-, rfl⟩ | ⟨g, c, rfl, -⟩ <;> simp [Value.oneCell']
  refine wpList_append_own_at w hgd s x 32 ho base 23 i0 _ 1 24 Tryd.underlying32 hi0 hz0 hz1 hz2 rfl (by decide) v i _ hs hown ad 1 1 [u] hx rfl hnew (by simpa using hu1) (by unfold maxLen; omega) (by omega) hbase ?_
  intro v' w' ho1 hg1 _ _
  have hkeep : ∀ {z : Value} {n : Nat} {F : Nat → Int}, OwnV w base z n F → OwnV w' base z n F := by
    intro z n F hz
    refine ⟨hz.1, ?_⟩
    rcases hz.2 with h' | ⟨g, cap, cur, hv, hb, hg, hrest⟩
    · exact .inl h'
    · refine .inr ⟨g, cap, cur, hv, hb, ?_, hrest⟩
      rw [hg1.block g (Array.getElem?_eq_some_iff.1 hg).1 fun e => ?_]
      · exact hg
      · rcases hown.2 with ⟨hv2, _⟩ | ⟨g2, cap2, cur2, hv2, hb2, hg2, _⟩
        · rw [hv2] at e; cases e
        · rw [hv2] at e
          have e' : g = g2 := by simpa [Value.ownBlock] using e
          subst e'
          rw [hg] at hg2
          simp at hg2
  refine h v' w' ⟨fun r => if r = i then u else V r, ?_, fun r hlt => ?_⟩ ?_
  · rw [List.range_succ, List.map_append]
    have e1 : (List.range i).map (fun r => if r = i then u else V r) = (List.range i).map V := by
      apply List.map_congr_left
      intro j hj
      have := List.mem_range.1 hj
      rw [if_neg (by omega)]
    rw [e1]
    simpa using ho1
  · by_cases hri : r = i
    · subst hri
      simp only [if_true]
      exact hkeep hrow
    · simp only [if_neg hri]
      exact hkeep (hr r (by omega))
  · refine ⟨hg1.os, hg1.tape, hg1.output, hg1.size, fun k hk => hg1.block k (by omega) fun e => ?_⟩
    rcases hown.2 with ⟨hv, _⟩ | ⟨g, cap, cur, hv, hb, hg, hrest⟩
    · rw [hv] at e; cases e
    · rw [hv] at e
      have e' : k = g := by simpa [Value.ownBlock] using e
      omega

end Go.Proofs.YtlbdbfmgkappaaaDoor

/- Two rows, or two ragged tables, that grow side by side. -/
namespace Go.Proofs.YtlbdbfmgkappaaaDoor
open Go.RowKit
set_option linter.unusedVariables false

/-- They lie in blocks of their own. -/
def Sep (v u : Value) : Prop := ∀ b, v.ownBlock = some b → u.ownBlock ≠ some b

theorem Sep.nil_left (u : Value) : Sep (.slice none 0 0) u := fun b h => by cases h
theorem Sep.nil_right (v : Value) : Sep v (.slice none 0 0) := fun b _ h => by cases h
theorem Sep.symm {v u : Value} (h : Sep v u) : Sep u v := fun b h1 h2 => h b h2 h1
/-- The first has grown: into the block that it had, or a new one. -/
theorem Sep.grow {w : World} {v v' u : Value} (h : Sep v u) (hv : v'.ownBlock = v.ownBlock ∨ v'.ownBlock = some w.heap.size) (hu : ∀ b, u.ownBlock = some b → b < w.heap.size) : Sep v' u := fun b h1 h2 => by
  rcases hv with e | e
  · exact h b (e ▸ h1) h2
  · have := hu b h2
    rw [e] at h1
    injection h1 with h1
    omega

theorem ownsRow_lt {w : World} {base size n : Nat} {t : TypeId} {v : Value} {xs : List Value} (h : w.ownsRow base t size v n xs) : ∀ b, v.ownBlock = some b → b < w.heap.size := fun b e => by
  rcases h.2 with ⟨hv, _⟩ | ⟨g, cap, cur, hv, hb, hg, _⟩
  · rw [hv] at e; cases e
  · rw [hv] at e
    have e' : g = b := by simpa [Value.ownBlock] using e
    subst e'
    exact (Array.getElem?_eq_some_iff.1 hg).1
theorem ownsRow_grown {w w' : World} {base size n : Nat} {t : TypeId} {v u : Value} {xs : List Value} (h : w.ownsRow base t size v n xs) (hg : w.grownBy w' u.ownBlock) (hs : Sep u v) : w'.ownsRow base t size v n xs := by
  refine ⟨h.1, ?_⟩
  rcases h.2 with h' | ⟨g, cap, cur, hv, hb, hgb, hrest⟩
  · exact .inl h'
  · refine .inr ⟨g, cap, cur, hv, hb, ?_, hrest⟩
    rw [hg.block g (Array.getElem?_eq_some_iff.1 hgb).1 fun e => ?_]
    · exact hgb
    · exact hs g e.symm (by rw [hv]; rfl)
/-- A row of another type is not touched. -/
theorem ownsRow_other {w w' : World} {base base' size size' n n' : Nat} {t t' : TypeId} {v u : Value} {xs ys : List Value} (h : w.ownsRow base t size v n xs) (k : w.ownsRow base' t' size' u n' ys) (ht : t ≠ t') (hg : w.grownBy w' u.ownBlock) : w'.ownsRow base t size v n xs := by
  refine ownsRow_grown h hg fun b e1 e2 => ?_
  rcases h.2 with ⟨hv, _⟩ | ⟨g, cap, cur, hv, hb, hgb, hrest⟩
  · rw [hv] at e2; cases e2
  · rcases k.2 with ⟨hu, _⟩ | ⟨g2, cap2, cur2, hu, hb2, hgb2, hrest2⟩
    · rw [hu] at e1; cases e1
    · rw [hv] at e2
      rw [hu] at e1
      have a1 : g = b := by simpa [Value.ownBlock] using e2
      have a2 : g2 = b := by simpa [Value.ownBlock] using e1
      subst a1
      subst a2
      rw [hgb] at hgb2
      simp at hgb2
      exact ht hgb2.2

section
variable {w w' : World} {base base' n m i j : Nat} {v u : Value} {f g : Nat → Int} {L M : Nat → Nat} {F G : Nat → Nat → Int}
theorem OwnV.grown (h : OwnV w base v n f) (hg : w.grownBy w' u.ownBlock) (hs : Sep u v) : OwnV w' base v n f := ownsRow_grown h hg hs
/-- A table whose neighbour has grown. -/
theorem Rag.grown (h : Rag w base v i L F) (k : Rag w base' u j M G) (hg : w.grownBy w' u.ownBlock) (hs : Sep u v) : Rag w' base v i L F := by
  obtain ⟨V, h1, h2⟩ := h
  obtain ⟨U, k1, -⟩ := k
  exact ⟨V, ownsRow_grown h1 hg hs, fun r hr => ownsRow_other (h2 r hr) k1 (by decide) hg⟩
theorem Rag.lt (h : Rag w base v i L F) : ∀ b, v.ownBlock = some b → b < w.heap.size := by
  obtain ⟨V, h1, -⟩ := h
  exact ownsRow_lt h1
end

/-- An append of one row; what grew is told. -/
theorem wpList_append_rag_g {w : World} {ops : Array Oper} {rest : List Oper} {o : Oper} {a : Act} {Q : Exit → Act → World → Prop} (hgd : o.guard = none) (s x : Operand)
    (ho : o.op = .call { callee := .builtin .append, args := #[s, x], argTypes := #[32, 32] })
    (base : Nat) (v : Value) (i : Nat) (L : Nat → Nat) (f : Nat → Nat → Int) (hs : a.eval s = v) (hT : Rag w base v i L f)
    (u : Value) (hrow : OwnV w base u (L i) (f i)) (ad : Addr) (hx : a.eval x = .slice (some ad) 1 1)
    (hnew : ∀ j u', [u][j]? = some u' → w.cell? (ad.add j) = some u') (hi : i ≤ 1000000000000) (hbase : base ≤ w.heap.size)
    (h : ∀ v' w', Rag w' base v' (i + 1) L f → Below base w w' → w.grownBy w' v.ownBlock → (v'.ownBlock = v.ownBlock ∨ v'.ownBlock = some w.heap.size) → wpList Tryd.prog ops Q rest (a.put o.dst v') w') :
    wpList Tryd.prog ops Q (o :: rest) a w := by
  obtain ⟨V, hown, hr⟩ := hT
  obtain ⟨i0, hi0, hz0, hz1, hz2⟩ := info_parts infoRow
  have hu1 : u.oneCell' = true := by
    rcases hrow.form with ⟨-, rfl⟩ | ⟨g, c, rfl, -⟩ <;> simp [Value.oneCell']
  refine wpList_append_own_at w hgd s x 32 ho base 23 i0 _ 1 24 Tryd.underlying32 hi0 hz0 hz1 hz2 rfl (by decide) v i _ hs hown ad 1 1 [u] hx rfl hnew (by simpa using hu1) (by unfold maxLen; omega) (by omega) hbase ?_
  intro v' w' ho1 hg1 _ hb1
  have hkeep : ∀ {z : Value} {n : Nat} {F : Nat → Int}, OwnV w base z n F → OwnV w' base z n F := fun hz => ownsRow_other hz hown (by decide) hg1
  refine h v' w' ⟨fun r => if r = i then u else V r, ?_, fun r hlt => ?_⟩ ?_ hg1 hb1
  · rw [List.range_succ, List.map_append]
    have e1 : (List.range i).map (fun r => if r = i then u else V r) = (List.range i).map V := by
      apply List.map_congr_left
      intro j hj
      have := List.mem_range.1 hj
      rw [if_neg (by omega)]
    rw [e1]
    simpa using ho1
  · by_cases hri : r = i
    · subst hri
      simp only [if_true]
      exact hkeep hrow
    · simp only [if_neg hri]
      exact hkeep (hr r (by omega))
  · refine ⟨hg1.os, hg1.tape, hg1.output, hg1.size, fun k hk => hg1.block k (by omega) fun e => ?_⟩
    rcases hown.2 with ⟨hv, _⟩ | ⟨g, cap, cur, hv, hb, hg, hrest⟩
    · rw [hv] at e; cases e
    · rw [hv] at e
      have e' : k = g := by simpa [Value.ownBlock] using e
      omega

end Go.Proofs.YtlbdbfmgkappaaaDoor

/- The reference's line: CutLine. Printed by gen_qcut.py. -/
namespace Go.Proofs.YtlbdbfmgkappaaaDoor
open Go.RowKit
set_option linter.unusedVariables false

/-- Both ends of a link that is cut forget whatever they have by each other. -/
def cutQ (u v : Nat) (F G : Nat → Nat → Int) (i t : Nat) : Int × Int := if (i = u ∧ G i t = (v : Int)) ∨ (i = v ∧ G i t = (u : Int)) then (16, -1) else (F i t, G i t)

theorem OwnV.snoc {w : World} {base o : Nat} {v : Value} {f : Nat → Int} {x : Int} (h : OwnV w base v (o + 1) (upd f o x)) (e : f o = x) : OwnV w base v (o + 1) f := h.congr fun j _ => by
  unfold upd
  by_cases h : j = o
  · rw [if_pos h, h, e]
  · rw [if_neg h]

theorem Sep.grow2 {v u : Value} {g n c N : Nat} (h : Sep v u) (hs : v.ownBlock = some g ∨ g = N) (hu : ∀ b, u.ownBlock = some b → b < N) : Sep (.slice (some ⟨g, 0, none⟩) n c) u := fun b h1 h2 => by
  have e : g = b := by simpa [Value.ownBlock] using h1
  subst e
  rcases hs with e | e
  · exact h g e h2
  · have := hu g h2
    omega

theorem OwnLk.slice_ {w : World} {base n : Nat} {v : Value} {a b c : Nat → Int} (h : OwnLk w base v n a b c) : ∃ A q, v = .slice A n q := by
  rcases h.form with ⟨rfl, rfl⟩ | ⟨g, c, rfl, -⟩
  · exact ⟨none, 0, rfl⟩
  · exact ⟨_, c, rfl⟩

theorem OwnLk.lift {w : World} {base base' n : Nat} {v : Value} {a b c : Nat → Int} (h : OwnLk w base v n a b c) (hb : base' ≤ base) : OwnLk w base' v n a b c := by
  refine ⟨h.1, ?_⟩
  rcases h.2 with h' | ⟨q, cap, cur, hv, hg, hrest⟩
  · exact .inl h'
  · exact .inr ⟨q, cap, cur, hv, Nat.le_trans hb hg, hrest⟩

set_option maxRecDepth 100000 in
set_option maxHeartbeats 1200000 in
theorem cutLine_q (n : Nat) (A FA NA : Option Addr) (m cp fc nc u v jj : Nat) (a b c : Nat → Int) (po : Bool) (F G : Nat → Nat → Int) (w : World) (hl : Lnk w A m a b c) (hm : m ≤ 1000000000) (hj : ∀ i, i < m → (Mt a b i u v ↔ i = jj))
    (hF : Mat w FA n (fun _ => n) F) (hN : Mat w NA n (fun _ => n) G) (h1 : 1 ≤ n) (h8 : n ≤ 8) (huv : u ≠ v) :
    Calls Tryd.prog 34 #[.agg #[.slice A m cp, .bool po, .slice FA n fc, .slice NA n nc], .int .i64 u, .int .i64 v] w fun e w' => ∃ z vF vN, e = .returned (.agg #[z, .bool po, vF, vN]) ∧
      OwnLk w' w.heap.size z (leftN jj m) (dropF jj a) (dropF jj b) (dropF jj c) ∧ Rag w' w.heap.size vF n (fun _ => n) (fun i t => (cutQ u v F G i t).1) ∧ Rag w' w.heap.size vN n (fun _ => n) (fun i t => (cutQ u v F G i t).2) ∧ Below w.heap.size w w' := by
  have h1' : (1 : Int) ≤ n := by omega
  have h8' : (n : Int) ≤ 8 := by omega
  obtain ⟨fa, rfl⟩ := hF.some_ h1
  obtain ⟨na, rfl⟩ := hN.some_ h1
  have HL := Lib.hid hl
  have HF := Lib.hid hF
  have HN := Lib.hid hN
  have HJ := Lib.hid hj
  obtain ⟨q1, hq1⟩ : ∃ q1, w.heap.size = q1 := ⟨_, rfl⟩
  have hb0 : Below w.heap.size w ((w.alloc (.cells #[.slice A m cp, .bool po, .slice (some fa) n fc, .slice (some na) n nc] 65)).alloc (.cells #[.slice none 0 0, .bool false, .slice none 0 0, .slice none 0 0] 65)) := ((Below.refl _ _).alloc (Nat.le_refl _) _).alloc (by simp) _
  have hbx : Blk ((w.alloc (.cells #[.slice A m cp, .bool po, .slice (some fa) n fc, .slice (some na) n nc] 65)).alloc (.cells #[.slice none 0 0, .bool false, .slice none 0 0, .slice none 0 0] 65)) q1 65 #[.slice A m cp, .bool po, .slice (some fa) n fc, .slice (some na) n nc] := by
    rw [← hq1]
    exact (Blk.new w _ _).alloc _
  have hrs : Blk ((w.alloc (.cells #[.slice A m cp, .bool po, .slice (some fa) n fc, .slice (some na) n nc] 65)).alloc (.cells #[.slice none 0 0, .bool false, .slice none 0 0, .slice none 0 0] 65)) (q1 + 1) 65 #[.slice none 0 0, .bool false, .slice none 0 0, .slice none 0 0] := by
    rw [← hq1]
    have := Blk.new (w.alloc (.cells #[Value.slice A m cp, .bool po, .slice (some fa) n fc, .slice (some na) n nc] 65)) 65 #[.slice none 0 0, .bool false, .slice none 0 0, .slice none 0 0]
    rw [show (w.alloc (.cells #[Value.slice A m cp, .bool po, .slice (some fa) n fc, .slice (some na) n nc] 65)).heap.size = w.heap.size + 1 by simp] at this
    exact this
  have HQ := Lib.hid hq1
  clear hl hF hN hj
  go_enter Tryd.func34, Tryd.ntmps34
  go_wp2_with fail
  obtain ⟨wb, hwb⟩ : ∃ wb, ((w.alloc (.cells #[.slice A m cp, .bool po, .slice (some fa) n fc, .slice (some na) n nc] 65)).alloc (.cells #[.slice none 0 0, .bool false, .slice none 0 0, .slice none 0 0] 65)) = wb := ⟨_, rfl⟩
  rw [hwb] at hb0 hbx hrs ⊢
  have HB0 := Lib.hid hb0
  have HBX := Lib.hid hbx
  have HRS := Lib.hid hrs
  have b0 := hbx.cell 0
  have b1 := hbx.cell 1
  simp at b0 b1
  have HLTX := Lib.hid hbx.lt
  clear hwb hq1 hb0 hbx hrs
  have c0 : (wb.alloc (.cells #[.slice none 0 0, .bool false, .slice none 0 0, .slice none 0 0] 65)).cell? ⟨q1, 0, none⟩ = some (.slice A m cp) := (((Below.refl wb.heap.size wb).alloc (Nat.le_refl _) _).cell HLTX.out).trans b0
  have c1 : (wb.alloc (.cells #[.slice none 0 0, .bool false, .slice none 0 0, .slice none 0 0] 65)).cell? ⟨q1, 1, none⟩ = some (.bool po) := (((Below.refl wb.heap.size wb).alloc (Nat.le_refl _) _).cell HLTX.out).trans b1
  go_cut [7] (fun s wx => ∃ p zA zc, s = .pointer (some ⟨p, 0, none⟩) ∧ q1 + 1 < p ∧ Blk wx p 65 #[.slice zA (leftN jj m) zc, .bool po, .slice none 0 0, .slice none 0 0] ∧ OwnLk wx w.heap.size (.slice zA (leftN jj m) zc) (leftN jj m) (dropF jj a) (dropF jj b) (dropF jj c) ∧ Blk wx q1 65 #[.slice A m cp, .bool po, .slice (some fa) n fc, .slice (some na) n nc] ∧ Blk wx (q1 + 1) 65 #[.slice none 0 0, .bool false, .slice none 0 0, .slice none 0 0] ∧ Below w.heap.size w wx)
  case first =>
    go_region_law (first
      | (go_simp
         refine (lessLink_walk A m cp jj a b c u v wb.drew (HL.out.keep HB0.out.drew) hm HJ.out).mono ?_
         rintro e w1 ⟨z, rfl, hO, hb1⟩
         obtain ⟨zA, zc, rfl⟩ := hO.slice_
         have hb1' : Below wb.heap.size wb w1 := ((Below.refl wb.heap.size wb).drew).trans hb1
         have b1a := (hb1'.cell (p := ⟨q1, 1, none⟩) HLTX.out).trans b1
         have b1b : (w1.alloc (.cells #[.slice none 0 0, .bool false, .slice none 0 0, .slice none 0 0] 65)).cell? ⟨q1, 1, none⟩ = some (.bool po) := (((Below.refl w1.heap.size w1).alloc (Nat.le_refl _) _).cell (World.block_lt_of_cell? w1 _ b1a)).trans b1a
         have HO := Lib.hid hO
         have HB1 := Lib.hid hb1'
         clear hO hb1 hb1')
      | (go_simp
         refine (lessLink_walk A m cp jj a b c u v (wb.alloc (.cells #[.slice none 0 0, .bool false, .slice none 0 0, .slice none 0 0] 65)).drew (HL.out.keep (HB0.out.alloc HB0.out.size _).drew) hm HJ.out).mono ?_
         rintro e w1 ⟨z, rfl, hO, hb1⟩
         obtain ⟨zA, zc, rfl⟩ := hO.slice_
         have hb1' : Below (wb.alloc (.cells #[.slice none 0 0, .bool false, .slice none 0 0, .slice none 0 0] 65)).heap.size (wb.alloc (.cells #[.slice none 0 0, .bool false, .slice none 0 0, .slice none 0 0] 65)) w1 := ((Below.refl _ _).drew).trans hb1
         have b1a := (hb1'.cell (p := ⟨q1, 1, none⟩) (World.block_lt_of_cell? _ _ c1)).trans c1
         have hpb := (Blk.new wb 65 #[.slice none 0 0, .bool false, .slice none 0 0, .slice none 0 0]).below hb1' (by simp)
         have d0 := hpb.cell 0
         have d1 := hpb.cell 1
         have d2 := hpb.cell 2
         have d3 := hpb.cell 3
         have e0 := hpb.frozen 0
         have e1 := hpb.frozen 1
         have e2 := hpb.frozen 2
         have e3 := hpb.frozen 3
         simp at d0 d1 d2 d3
         have HPB := Lib.hid hpb
         clear hpb
         have HO := Lib.hid hO
         have HB1 := Lib.hid hb1'
         clear hO hb1 hb1'))
    all_goals
      clear c0 c1 b0 b1 b1a
      try clear b1b
      try clear d0 d1 d2 d3 e0 e1 e2 e3
      have hq := HQ.out
      have hr1 := HRS.out.lt
      go_wp2_with fail
      go_meet
      first
        | (have HPB' := HPB.out
           have hs0 := HPB'.set_ 0 (.slice zA (leftN jj m) zc)
           have hs1 := hs0.set_ 1 (.bool po)
           have hs2 := hs1.set_ 2 (.slice none 0 0)
           have hs3 := hs2.set_ 3 (.slice none 0 0)
           simp at hs3
           have hx := (HBX.out.alloc (.cells #[.slice none 0 0, .bool false, .slice none 0 0, .slice none 0 0] 65)).below HB1.out (HBX.out.alloc (.cells #[.slice none 0 0, .bool false, .slice none 0 0, .slice none 0 0] 65)).lt
           have hy := (HRS.out.alloc (.cells #[.slice none 0 0, .bool false, .slice none 0 0, .slice none 0 0] 65)).below HB1.out (HRS.out.alloc (.cells #[.slice none 0 0, .bool false, .slice none 0 0, .slice none 0 0] 65)).lt
           have hxl := HBX.out.lt
           have nx : q1 ≠ wb.heap.size := by omega
           have ny : q1 + 1 ≠ wb.heap.size := by omega
           have hsz : (wb.alloc (.cells #[.slice none 0 0, .bool false, .slice none 0 0, .slice none 0 0] 65)).heap.size = wb.heap.size + 1 := by simp
           have hso : w.heap.size ≤ wb.heap.size := HB0.out.size
           have hbl : Below w.heap.size w w1 := (HB0.out.alloc HB0.out.size _).trans (HB1.out.mono (by rw [hsz]; omega))
           have hol : OwnLk w1 (wb.heap.size + 1) (.slice zA (leftN jj m) zc) (leftN jj m) (dropF jj a) (dropF jj b) (dropF jj c) := by
             have := HO.out
             rw [show (wb.alloc (.cells #[.slice none 0 0, .bool false, .slice none 0 0, .slice none 0 0] 65)).drew.heap.size = wb.heap.size + 1 from hsz] at this
             exact this
           refine ⟨wb.heap.size, zA, zc, rfl, hr1, hs3, (hol.same fun g hg _ => ?_).lift (by omega), (((hx.far (p := ⟨wb.heap.size, 0, none⟩) nx _).far (p := ⟨wb.heap.size, 1, none⟩) nx _).far (p := ⟨wb.heap.size, 2, none⟩) nx _).far (p := ⟨wb.heap.size, 3, none⟩) nx _, (((hy.far (p := ⟨wb.heap.size, 0, none⟩) ny _).far (p := ⟨wb.heap.size, 1, none⟩) ny _).far (p := ⟨wb.heap.size, 2, none⟩) ny _).far (p := ⟨wb.heap.size, 3, none⟩) ny _, (((hbl.setCell hso _).setCell hso _).setCell hso _).setCell hso _⟩
           rw [Below.heap_setCell _ _ _ _ (by show g ≠ wb.heap.size; omega), Below.heap_setCell _ _ _ _ (by show g ≠ wb.heap.size; omega), Below.heap_setCell _ _ _ _ (by show g ≠ wb.heap.size; omega), Below.heap_setCell _ _ _ _ (by show g ≠ wb.heap.size; omega)])
        | exact ⟨w1.heap.size, zA, zc, rfl, by have := HB1.out.size; omega, Blk.new _ _ _, (HO.out.lift HB0.out.size).alloc _, (HBX.out.below HB1.out HBX.out.lt).alloc _, (HRS.out.below HB1.out HRS.out.lt).alloc _, (HB0.out.trans (HB1.out.mono HB0.out.size)).alloc (Nat.le_trans HB0.out.size HB1.out.size) _⟩
  case rest =>
    obtain ⟨p, zA, zc, rfl, hp, hpb, hO, hbx, hrs, hb⟩ := hcut
    have HP := Lib.hid hp
    have HPB := Lib.hid hpb
    have HO := Lib.hid hO
    have HBX2 := Lib.hid hbx
    have HRS2 := Lib.hid hrs
    have HB := Lib.hid hb
    clear hp hpb hO hbx hrs hb c0 c1 b0 b1
    have hpl := HPB.out.lt
    go_wp2_with fail
    go_loopw [8] (fun q wr => ∃ i : Nat, i ≤ n ∧ q = .int .i64 i ∧ ∃ vF vN, Blk wr p 65 #[.slice zA (leftN jj m) zc, .bool po, vF, vN] ∧ Rag wr wc.heap.size vF i (fun _ => n) (fun i t => (cutQ u v F G i t).1) ∧ Rag wr wc.heap.size vN i (fun _ => n) (fun i t => (cutQ u v F G i t).2) ∧ Sep vF vN ∧ Touch (fun b => b = p) wc wr ∧ wc.heap.size ≤ wr.heap.size) (fun q _ => n - (intOf q).toNat)
    case atStart => exact ⟨0, by omega, rfl, _, _, HPB.out, Rag.nil _ _ _ _, Rag.nil _ _ _ _, Sep.nil_left _, Touch.refl _ _, Nat.le_refl _⟩
    case round =>
      obtain ⟨i, hi, rfl, vF, vN, hbl, hTF, hTN, hsp, hbw, hsz⟩ := hrel
      have HBL := Lib.hid hbl
      have HTF := Lib.hid hTF
      have HTN := Lib.hid hTN
      have HSP := Lib.hid hsp
      have HTW := Lib.hid hbw
      have HBW : Hid (Below p wc wr) := Touch.below (Below.refl p wc) hbw (by omega) (fun i hi => by omega)
      have HS : Hid (p + 1 ≤ wr.heap.size) := by show p + 1 ≤ _; omega
      have HSZ := Lib.hid hsz
      have hq := HQ.out
      have hpp := HP.out
      have bx := HBX2.out.below HBW.out (by omega)
      have x0 := bx.cell 0
      have x2 := bx.cell 2
      have x3 := bx.cell 3
      simp at x0 x2 x3
      have hql : q1 < wr.heap.size := bx.lt
      clear hbl hTF hTN hsp hbw hsz bx hpp
      by_cases hin : i < n
      · have hin' : (i : Int) < n := by omega
        obtain ⟨wo, hwo⟩ : ∃ wo : World, wo = wr := ⟨_, rfl⟩
        rw [← hwo] at HBL HTF HTN HBW HTW HS HSZ x0 x2 x3 hql ⊢
        clear hwo
        go_wp2_with fail
        go_loopw [9, 10, 11] (fun a9 a10 q wi => ∃ o : Nat, o ≤ n ∧ q = .int .i64 o ∧ OwnV wi wo.heap.size a9 o (fun t => (cutQ u v F G i t).1) ∧ OwnV wi wo.heap.size a10 o (fun t => (cutQ u v F G i t).2) ∧ Sep a9 a10 ∧ Below wo.heap.size wo wi) (fun _ _ q _ => n - (intOf q).toNat)
        case atStart => exact ⟨0, by omega, rfl, OwnV.nil _ _ _, OwnV.nil _ _ _, Sep.nil_left _, Below.refl _ _⟩
        case round =>
          obtain ⟨o, ho, rfl, hV, hU, hsp2, hbj⟩ := hrel
          have HV := Lib.hid hV
          have HU := Lib.hid hU
          have HSEP := Lib.hid hsp2
          have HBJ := Lib.hid hbj
          clear hV hU hsp2
          have y0 := (hbj.cell hql (p := ⟨q1, 0, none⟩)).trans x0
          have y2 := (hbj.cell hql (p := ⟨q1, 2, none⟩)).trans x2
          have y3 := (hbj.cell hql (p := ⟨q1, 3, none⟩)).trans x3
          clear hbj
          by_cases hon : o < n
          · have hon' : (o : Int) < n := by omega
            have hlw : Below w.heap.size w wr := (HB.out.trans (HBW.out.mono (by have := HP.out; have := HQ.out; omega))).trans (HBJ.out.mono (by have := HS.out; have := HP.out; have := HQ.out; omega))
            obtain ⟨Ai, ci, f1, f2⟩ := Mat.at_ h1 (HF.out.keep hlw) hin hon
            obtain ⟨Bi, di, k1, k2⟩ := Mat.at_ h1 (HN.out.keep hlw) hin hon
            obtain ⟨fv, hfv⟩ : ∃ fv, F i o = fv := ⟨_, rfl⟩
            obtain ⟨gv, hgv⟩ : ∃ gv, G i o = gv := ⟨_, rfl⟩
            rw [hfv] at f2
            rw [hgv] at k2
            have HFV := Lib.hid hfv
            have HGV := Lib.hid hgv
            clear hfv hgv hlw
            have hng : ∀ {z : Int} {s : Nat}, z ≠ (s : Int) → (z == (s : Int)) = false := fun h => beq_false_of_ne h
            by_cases hiu : i = u
            · have a1 : ((i : Int) == (u : Int)) = true := by simp [hiu]
              have a2 : (i == u) = true := by simp [hiu]
              have a3 : ((i : Int) == (v : Int)) = false := beq_false_of_ne (by omega)
              have a4 : (i == v) = false := beq_false_of_ne (by omega)
              have HIU := Lib.hid hiu
              clear hiu
              by_cases hg : gv = (v : Int)
              · have a5 : (gv == (v : Int)) = true := by simp [hg]
                have HG := Lib.hid hg
                clear hg
                have HE : Hid (cutQ u v F G i o = (16, (-1))) := by
                  show cutQ u v F G i o = (16, (-1))
                  unfold cutQ
                  exact if_pos (.inl ⟨HIU.out, by rw [HGV.out]; exact HG.out⟩)
                go_wp2_with (at_builtin; refine wpList_append_int rfl (.tmp 66) (.tmp 67) rfl wo.heap.size _ o _ rfl (HV.out.alloc _) 16 _ rfl (cell_new_at _ _ _ rfl) (by omega) (by have := HBJ.out.size; simp; omega) ?_)
                intro g5 cap5 w5 hV5 hb5 hg5 hs5
                have HV5 := Lib.hid (hV5.snoc (f := fun t => (cutQ u v F G i t).1) (by show (cutQ u v F G i o).1 = _; rw [HE.out]))
                have HU5 := Lib.hid (OwnV.grown (HU.out.alloc _) hg5 HSEP.out)
                have HSEP5 := Lib.hid (HSEP.out.grow2 (n := o + 1) (c := cap5) hs5 (fun b hb => Nat.lt_succ_of_lt (ownsRow_lt HU.out b hb)))
                have HBJ5 : Hid (Below wo.heap.size wo w5) := (HBJ.out.alloc HBJ.out.size _).trans hb5
                clear hV5 hb5 hg5 hs5 HV HU HSEP HBJ
                skip
                go_wp2_with (at_builtin; refine wpList_append_int rfl (.tmp 69) (.tmp 70) rfl wo.heap.size _ o _ rfl (HU5.out.alloc _) (-1) _ rfl (cell_new_at _ _ _ rfl) (by omega) (by have := HBJ5.out.size; simp; omega) ?_)
                intro g6 cap6 w6 hV6 hb6 hg6 hs6
                have HU6 := Lib.hid (hV6.snoc (f := fun t => (cutQ u v F G i t).2) (by show (cutQ u v F G i o).2 = _; rw [HE.out]))
                have HV6 := Lib.hid (OwnV.grown (HV5.out.alloc _) hg6 HSEP5.out.symm)
                have HSEP6 := Lib.hid (HSEP5.out.symm.grow2 (n := o + 1) (c := cap6) hs6 (fun b hb => Nat.lt_succ_of_lt (ownsRow_lt HV5.out b hb)))
                have HBJ6 : Hid (Below wo.heap.size wo w6) := (HBJ5.out.alloc HBJ5.out.size _).trans hb6
                clear hV6 hb6 hg6 hs6 HV5 HU5 HSEP5 HBJ5
                go_wp2_with fail
                go_roundw
                case rel => exact ⟨o + 1, by omega, by go_num, HV6.out, HU6.out, HSEP6.out.symm, HBJ6.out⟩
                case measure => simp [intOf]; omega
              · have a5 : (gv == (v : Int)) = false := beq_false_of_ne hg
                have HG := Lib.hid hg
                clear hg
                have HE : Hid (cutQ u v F G i o = (fv, gv)) := by
                  show cutQ u v F G i o = (fv, gv)
                  unfold cutQ
                  rw [if_neg (by have := HIU.out; have := HG.out; rw [HGV.out]; omega), HFV.out, HGV.out]
                go_wp2_with (at_builtin; refine wpList_append_int rfl (.tmp 72) (.tmp 81) rfl wo.heap.size _ o _ rfl (HV.out.alloc _) fv _ rfl (cell_new_at _ _ _ rfl) (by omega) (by have := HBJ.out.size; simp; omega) ?_)
                intro g5 cap5 w5 hV5 hb5 hg5 hs5
                have HV5 := Lib.hid (hV5.snoc (f := fun t => (cutQ u v F G i t).1) (by show (cutQ u v F G i o).1 = _; rw [HE.out]))
                have HU5 := Lib.hid (OwnV.grown (HU.out.alloc _) hg5 HSEP.out)
                have HSEP5 := Lib.hid (HSEP.out.grow2 (n := o + 1) (c := cap5) hs5 (fun b hb => Nat.lt_succ_of_lt (ownsRow_lt HU.out b hb)))
                have HBJ5 : Hid (Below wo.heap.size wo w5) := (HBJ.out.alloc HBJ.out.size _).trans hb5
                clear hV5 hb5 hg5 hs5 HV HU HSEP HBJ
                have z0 := (HBJ5.out.cell hql (p := ⟨q1, 0, none⟩)).trans x0
                have z2 := (HBJ5.out.cell hql (p := ⟨q1, 2, none⟩)).trans x2
                have z3 := (HBJ5.out.cell hql (p := ⟨q1, 3, none⟩)).trans x3
                have hlw5 : Below w.heap.size w w5 := (HB.out.trans (HBW.out.mono (by have := HP.out; have := HQ.out; omega))).trans (HBJ5.out.mono (by have := HS.out; have := HP.out; have := HQ.out; omega))
                obtain ⟨Bj, dj, l1, l2⟩ := Mat.at_ h1 (HN.out.keep hlw5) hin hon
                rw [HGV.out] at l2
                clear hlw5
                go_wp2_with (at_builtin; refine wpList_append_int rfl (.tmp 83) (.tmp 92) rfl wo.heap.size _ o _ rfl (HU5.out.alloc _) gv _ rfl (cell_new_at _ _ _ rfl) (by omega) (by have := HBJ5.out.size; simp; omega) ?_)
                intro g6 cap6 w6 hV6 hb6 hg6 hs6
                have HU6 := Lib.hid (hV6.snoc (f := fun t => (cutQ u v F G i t).2) (by show (cutQ u v F G i o).2 = _; rw [HE.out]))
                have HV6 := Lib.hid (OwnV.grown (HV5.out.alloc _) hg6 HSEP5.out.symm)
                have HSEP6 := Lib.hid (HSEP5.out.symm.grow2 (n := o + 1) (c := cap6) hs6 (fun b hb => Nat.lt_succ_of_lt (ownsRow_lt HV5.out b hb)))
                have HBJ6 : Hid (Below wo.heap.size wo w6) := (HBJ5.out.alloc HBJ5.out.size _).trans hb6
                clear hV6 hb6 hg6 hs6 HV5 HU5 HSEP5 HBJ5
                go_wp2_with fail
                go_roundw
                case rel => exact ⟨o + 1, by omega, by go_num, HV6.out, HU6.out, HSEP6.out.symm, HBJ6.out⟩
                case measure => simp [intOf]; omega
            · have a1 : ((i : Int) == (u : Int)) = false := beq_false_of_ne (by omega)
              have a2 : (i == u) = false := beq_false_of_ne hiu
              by_cases hiv : i = v
              · have a3 : ((i : Int) == (v : Int)) = true := by simp [hiv]
                have a4 : (i == v) = true := by simp [hiv]
                have HIV := Lib.hid hiv
                clear hiv
                by_cases hg : gv = (u : Int)
                · have a5 : (gv == (u : Int)) = true := by simp [hg]
                  have HG := Lib.hid hg
                  clear hg
                  have HE : Hid (cutQ u v F G i o = (16, (-1))) := by
                    show cutQ u v F G i o = (16, (-1))
                    unfold cutQ
                    exact if_pos (.inr ⟨HIV.out, by rw [HGV.out]; exact HG.out⟩)
                  go_wp2_with (at_builtin; refine wpList_append_int rfl (.tmp 66) (.tmp 67) rfl wo.heap.size _ o _ rfl (HV.out.alloc _) 16 _ rfl (cell_new_at _ _ _ rfl) (by omega) (by have := HBJ.out.size; simp; omega) ?_)
                  intro g5 cap5 w5 hV5 hb5 hg5 hs5
                  have HV5 := Lib.hid (hV5.snoc (f := fun t => (cutQ u v F G i t).1) (by show (cutQ u v F G i o).1 = _; rw [HE.out]))
                  have HU5 := Lib.hid (OwnV.grown (HU.out.alloc _) hg5 HSEP.out)
                  have HSEP5 := Lib.hid (HSEP.out.grow2 (n := o + 1) (c := cap5) hs5 (fun b hb => Nat.lt_succ_of_lt (ownsRow_lt HU.out b hb)))
                  have HBJ5 : Hid (Below wo.heap.size wo w5) := (HBJ.out.alloc HBJ.out.size _).trans hb5
                  clear hV5 hb5 hg5 hs5 HV HU HSEP HBJ
                  skip
                  go_wp2_with (at_builtin; refine wpList_append_int rfl (.tmp 69) (.tmp 70) rfl wo.heap.size _ o _ rfl (HU5.out.alloc _) (-1) _ rfl (cell_new_at _ _ _ rfl) (by omega) (by have := HBJ5.out.size; simp; omega) ?_)
                  intro g6 cap6 w6 hV6 hb6 hg6 hs6
                  have HU6 := Lib.hid (hV6.snoc (f := fun t => (cutQ u v F G i t).2) (by show (cutQ u v F G i o).2 = _; rw [HE.out]))
                  have HV6 := Lib.hid (OwnV.grown (HV5.out.alloc _) hg6 HSEP5.out.symm)
                  have HSEP6 := Lib.hid (HSEP5.out.symm.grow2 (n := o + 1) (c := cap6) hs6 (fun b hb => Nat.lt_succ_of_lt (ownsRow_lt HV5.out b hb)))
                  have HBJ6 : Hid (Below wo.heap.size wo w6) := (HBJ5.out.alloc HBJ5.out.size _).trans hb6
                  clear hV6 hb6 hg6 hs6 HV5 HU5 HSEP5 HBJ5
                  go_wp2_with fail
                  go_roundw
                  case rel => exact ⟨o + 1, by omega, by go_num, HV6.out, HU6.out, HSEP6.out.symm, HBJ6.out⟩
                  case measure => simp [intOf]; omega
                · have a5 : (gv == (u : Int)) = false := beq_false_of_ne hg
                  have HG := Lib.hid hg
                  clear hg
                  have HE : Hid (cutQ u v F G i o = (fv, gv)) := by
                    show cutQ u v F G i o = (fv, gv)
                    unfold cutQ
                    rw [if_neg (by have := HIV.out; have := HG.out; rw [HGV.out]; omega), HFV.out, HGV.out]
                  go_wp2_with (at_builtin; refine wpList_append_int rfl (.tmp 72) (.tmp 81) rfl wo.heap.size _ o _ rfl (HV.out.alloc _) fv _ rfl (cell_new_at _ _ _ rfl) (by omega) (by have := HBJ.out.size; simp; omega) ?_)
                  intro g5 cap5 w5 hV5 hb5 hg5 hs5
                  have HV5 := Lib.hid (hV5.snoc (f := fun t => (cutQ u v F G i t).1) (by show (cutQ u v F G i o).1 = _; rw [HE.out]))
                  have HU5 := Lib.hid (OwnV.grown (HU.out.alloc _) hg5 HSEP.out)
                  have HSEP5 := Lib.hid (HSEP.out.grow2 (n := o + 1) (c := cap5) hs5 (fun b hb => Nat.lt_succ_of_lt (ownsRow_lt HU.out b hb)))
                  have HBJ5 : Hid (Below wo.heap.size wo w5) := (HBJ.out.alloc HBJ.out.size _).trans hb5
                  clear hV5 hb5 hg5 hs5 HV HU HSEP HBJ
                  have z0 := (HBJ5.out.cell hql (p := ⟨q1, 0, none⟩)).trans x0
                  have z2 := (HBJ5.out.cell hql (p := ⟨q1, 2, none⟩)).trans x2
                  have z3 := (HBJ5.out.cell hql (p := ⟨q1, 3, none⟩)).trans x3
                  have hlw5 : Below w.heap.size w w5 := (HB.out.trans (HBW.out.mono (by have := HP.out; have := HQ.out; omega))).trans (HBJ5.out.mono (by have := HS.out; have := HP.out; have := HQ.out; omega))
                  obtain ⟨Bj, dj, l1, l2⟩ := Mat.at_ h1 (HN.out.keep hlw5) hin hon
                  rw [HGV.out] at l2
                  clear hlw5
                  go_wp2_with (at_builtin; refine wpList_append_int rfl (.tmp 83) (.tmp 92) rfl wo.heap.size _ o _ rfl (HU5.out.alloc _) gv _ rfl (cell_new_at _ _ _ rfl) (by omega) (by have := HBJ5.out.size; simp; omega) ?_)
                  intro g6 cap6 w6 hV6 hb6 hg6 hs6
                  have HU6 := Lib.hid (hV6.snoc (f := fun t => (cutQ u v F G i t).2) (by show (cutQ u v F G i o).2 = _; rw [HE.out]))
                  have HV6 := Lib.hid (OwnV.grown (HV5.out.alloc _) hg6 HSEP5.out.symm)
                  have HSEP6 := Lib.hid (HSEP5.out.symm.grow2 (n := o + 1) (c := cap6) hs6 (fun b hb => Nat.lt_succ_of_lt (ownsRow_lt HV5.out b hb)))
                  have HBJ6 : Hid (Below wo.heap.size wo w6) := (HBJ5.out.alloc HBJ5.out.size _).trans hb6
                  clear hV6 hb6 hg6 hs6 HV5 HU5 HSEP5 HBJ5
                  go_wp2_with fail
                  go_roundw
                  case rel => exact ⟨o + 1, by omega, by go_num, HV6.out, HU6.out, HSEP6.out.symm, HBJ6.out⟩
                  case measure => simp [intOf]; omega
              · have a3 : ((i : Int) == (v : Int)) = false := beq_false_of_ne (by omega)
                have a4 : (i == v) = false := beq_false_of_ne hiv
                have HE : Hid (cutQ u v F G i o = (fv, gv)) := by
                  show cutQ u v F G i o = (fv, gv)
                  unfold cutQ
                  rw [if_neg (by omega), HFV.out, HGV.out]
                go_wp2_with (at_builtin; refine wpList_append_int rfl (.tmp 72) (.tmp 81) rfl wo.heap.size _ o _ rfl (HV.out.alloc _) fv _ rfl (cell_new_at _ _ _ rfl) (by omega) (by have := HBJ.out.size; simp; omega) ?_)
                intro g5 cap5 w5 hV5 hb5 hg5 hs5
                have HV5 := Lib.hid (hV5.snoc (f := fun t => (cutQ u v F G i t).1) (by show (cutQ u v F G i o).1 = _; rw [HE.out]))
                have HU5 := Lib.hid (OwnV.grown (HU.out.alloc _) hg5 HSEP.out)
                have HSEP5 := Lib.hid (HSEP.out.grow2 (n := o + 1) (c := cap5) hs5 (fun b hb => Nat.lt_succ_of_lt (ownsRow_lt HU.out b hb)))
                have HBJ5 : Hid (Below wo.heap.size wo w5) := (HBJ.out.alloc HBJ.out.size _).trans hb5
                clear hV5 hb5 hg5 hs5 HV HU HSEP HBJ
                have z0 := (HBJ5.out.cell hql (p := ⟨q1, 0, none⟩)).trans x0
                have z2 := (HBJ5.out.cell hql (p := ⟨q1, 2, none⟩)).trans x2
                have z3 := (HBJ5.out.cell hql (p := ⟨q1, 3, none⟩)).trans x3
                have hlw5 : Below w.heap.size w w5 := (HB.out.trans (HBW.out.mono (by have := HP.out; have := HQ.out; omega))).trans (HBJ5.out.mono (by have := HS.out; have := HP.out; have := HQ.out; omega))
                obtain ⟨Bj, dj, l1, l2⟩ := Mat.at_ h1 (HN.out.keep hlw5) hin hon
                rw [HGV.out] at l2
                clear hlw5
                go_wp2_with (at_builtin; refine wpList_append_int rfl (.tmp 83) (.tmp 92) rfl wo.heap.size _ o _ rfl (HU5.out.alloc _) gv _ rfl (cell_new_at _ _ _ rfl) (by omega) (by have := HBJ5.out.size; simp; omega) ?_)
                intro g6 cap6 w6 hV6 hb6 hg6 hs6
                have HU6 := Lib.hid (hV6.snoc (f := fun t => (cutQ u v F G i t).2) (by show (cutQ u v F G i o).2 = _; rw [HE.out]))
                have HV6 := Lib.hid (OwnV.grown (HV5.out.alloc _) hg6 HSEP5.out.symm)
                have HSEP6 := Lib.hid (HSEP5.out.symm.grow2 (n := o + 1) (c := cap6) hs6 (fun b hb => Nat.lt_succ_of_lt (ownsRow_lt HV5.out b hb)))
                have HBJ6 : Hid (Below wo.heap.size wo w6) := (HBJ5.out.alloc HBJ5.out.size _).trans hb6
                clear hV6 hb6 hg6 hs6 HV5 HU5 HSEP5 HBJ5
                go_wp2_with fail
                go_roundw
                case rel => exact ⟨o + 1, by omega, by go_num, HV6.out, HU6.out, HSEP6.out.symm, HBJ6.out⟩
                case measure => simp [intOf]; omega
          · have eo : o = n := by omega
            rw [eo] at HV HU
            have HEO := Lib.hid eo
            have hd1 : decide (o < n) = false := decide_eq_false hon
            have hd2 : decide ((o : Int) < n) = false := decide_eq_false (by omega)
            have hd3 : decide (n ≤ o) = true := decide_eq_true (by omega)
            clear eo y0 y3
            rcases HV.out.form with ⟨h0, -⟩ | ⟨g9, c9, e9, hg9, hl9, -, -⟩
            · omega
            rcases HU.out.form with ⟨h0, -⟩ | ⟨g10, c10, e10, hg10, hl10, -, -⟩
            · omega
            subst e9
            subst e10
            have hbl := HBL.out.below HBJ.out HBL.out.lt
            have b2 := hbl.cell 2
            have b3 := hbl.cell 3
            have bf2 := hbl.frozen 2
            have bf3 := hbl.frozen 3
            simp at b2 b3
            have hpl := hbl.lt
            have hps := HSZ.out
            have hsz : wo.heap.size ≤ wr.heap.size := HBJ.out.size
            have HTF4 := Lib.hid ((HTF.out.below HBJ.out).alloc (.cells #[.slice (some ⟨g9, 0, none⟩) n c9] 23))
            have HTN4 := Lib.hid ((HTN.out.below HBJ.out).alloc (.cells #[.slice (some ⟨g9, 0, none⟩) n c9] 23))
            have HV4 := Lib.hid ((HV.out.alloc (.cells #[.slice (some ⟨g9, 0, none⟩) n c9] 23)).lift hps)
            have HU4 := Lib.hid (HU.out.alloc (.cells #[.slice (some ⟨g9, 0, none⟩) n c9] 23))
            have hb04 : Below wo.heap.size wo (wr.alloc (.cells #[.slice (some ⟨g9, 0, none⟩) n c9] 23)) := HBJ.out.alloc hsz _
            have HB04 := Lib.hid hb04
            have hbl4 := HBL.out.below hb04 HBL.out.lt
            have HBL4 := Lib.hid hbl4
            have HSV : Hid (∀ b, vF.ownBlock = some b → b < wo.heap.size) := HTF.out.lt
            have HSN : Hid (∀ b, vN.ownBlock = some b → b < wo.heap.size) := HTN.out.lt
            clear hbl hb04 hbl4
            go_wp2_with (at_builtin; refine wpList_append_rag_g rfl (.tmp 95) (.tmp 97) rfl wc.heap.size vF i (fun _ => n) (fun i t => (cutQ u v F G i t).1) rfl HTF4.out (.slice (some ⟨g9, 0, none⟩) n c9) HV4.out _ rfl (cell_new_at _ _ _ rfl) (by omega) (by simp; omega) ?_)
            intro v5 w5 hT5 hb5 hg5 ho5
            obtain ⟨g5, c5, e5, hgb5, -⟩ := hT5.form (by omega)
            subst e5
            have hbl5 := HBL4.out.below hb5 HPB.out.lt
            have d2 := hbl5.cell 2
            have e2 := hbl5.frozen 2
            simp at d2
            have hbl6 : Blk (w5.setCell ⟨p, 2, none⟩ (.slice (some ⟨g5, 0, none⟩) (i + 1) c5)) p 65 #[.slice zA (leftN jj m) zc, .bool po, .slice (some ⟨g5, 0, none⟩) (i + 1) c5, vN] := by
              have := hbl5.set_ 2 (.slice (some ⟨g5, 0, none⟩) (i + 1) c5)
              simpa using this
            have hst : ∀ b, wc.heap.size ≤ b → b < w5.heap.size → (w5.setCell ⟨p, 2, none⟩ (.slice (some ⟨g5, 0, none⟩) (i + 1) c5)).heap[b]? = w5.heap[b]? := fun b hb _ => Below.heap_setCell _ _ _ _ (by show b ≠ p; omega)
            have HTF6 := Lib.hid (hT5.same hst)
            have HTN6 := Lib.hid ((Rag.grown HTN4.out HTF4.out hg5 HSP.out).same hst)
            have HU6 := Lib.hid ((((OwnV.grown HU4.out hg5 (fun b h1 h2 => by
              have := HSV.out b h1
              have : g10 = b := by simpa [Value.ownBlock] using h2
              omega)).lift hps)).same hst)
            have HT6 : Hid (Touch (fun b => b = p) wc (w5.setCell ⟨p, 2, none⟩ (.slice (some ⟨g5, 0, none⟩) (i + 1) c5))) := ((HTW.out.trans (Touch.of_below HB04.out)).grown hg5 (fun k hk => .inr (by obtain ⟨V, h1', -⟩ := HTF.out; exact (World.ownsRow.lt h1' k hk).1))).setCell (.inl rfl) _
            have HBL6 := Lib.hid hbl6
            have k3 := hbl6.cell 3
            simp at k3
            have HS6 := Lib.hid HT6.out.size
            have HSP6 : Hid (Sep (.slice (some ⟨g5, 0, none⟩) (i + 1) c5) vN) := fun b h1 h2 => by
              have h3 := HSN.out b h2
              rcases ho5 with e | e
              · exact HSP.out b (e ▸ h1) h2
              · rw [e] at h1
                have := Option.some.inj h1
                omega
            clear hT5 hb5 hg5 ho5 hgb5 hbl5 hbl6 hst b2 b3 bf2 bf3
            go_wp2_with (at_builtin; refine wpList_append_rag_g rfl (.tmp 101) (.tmp 103) rfl wc.heap.size vN i (fun _ => n) (fun i t => (cutQ u v F G i t).2) rfl (HTN6.out.alloc _) (.slice (some ⟨g10, 0, none⟩) n c10) (HU6.out.alloc _) _ rfl (cell_new_at _ _ _ (by simp)) (by omega) (by have := HS6.out; simp at this; simp; omega) ?_)
            intro v7 w7 hT7 hb7 hg7 ho7
            obtain ⟨g7, c7, e7, hgb7, -⟩ := hT7.form (by omega)
            subst e7
            have hbl7 := (HBL6.out.alloc (.cells #[.slice (some ⟨g10, 0, none⟩) n c10] 23)).below hb7 HPB.out.lt
            have d3 := hbl7.cell 3
            have e3 := hbl7.frozen 3
            simp at d3
            have hbl8 : Blk (w7.setCell ⟨p, 3, none⟩ (.slice (some ⟨g7, 0, none⟩) (i + 1) c7)) p 65 #[.slice zA (leftN jj m) zc, .bool po, .slice (some ⟨g5, 0, none⟩) (i + 1) c5, .slice (some ⟨g7, 0, none⟩) (i + 1) c7] := by
              have := hbl7.set_ 3 (.slice (some ⟨g7, 0, none⟩) (i + 1) c7)
              simpa using this
            have hst : ∀ b, wc.heap.size ≤ b → b < w7.heap.size → (w7.setCell ⟨p, 3, none⟩ (.slice (some ⟨g7, 0, none⟩) (i + 1) c7)).heap[b]? = w7.heap[b]? := fun b hb _ => Below.heap_setCell _ _ _ _ (by show b ≠ p; omega)
            have HTN8 := Lib.hid (hT7.same hst)
            have HTF8 := Lib.hid ((Rag.grown (HTF6.out.alloc (.cells #[.slice (some ⟨g10, 0, none⟩) n c10] 23)) (HTN6.out.alloc _) hg7 HSP6.out.symm).same hst)
            have HT8 : Hid (Touch (fun b => b = p) wc (w7.setCell ⟨p, 3, none⟩ (.slice (some ⟨g7, 0, none⟩) (i + 1) c7))) := ((HT6.out.alloc _).grown hg7 (fun k hk => .inr (by obtain ⟨V, h1', -⟩ := HTN6.out; exact (World.ownsRow.lt h1' k hk).1))).setCell (.inl rfl) _
            have HSP8 : Hid (Sep (.slice (some ⟨g5, 0, none⟩) (i + 1) c5) (.slice (some ⟨g7, 0, none⟩) (i + 1) c7)) := by
              refine Sep.symm fun b h1 h2 => ?_
              rcases ho7 with e | e
              · exact HSP6.out b h2 (e ▸ h1)
              · rw [e] at h1
                have h3 := HTF6.out.lt b h2
                have := Option.some.inj h1
                simp at h3
                omega
            have HBL8 := Lib.hid hbl8
            clear hT7 hb7 hg7 ho7 hgb7 hbl7 hbl8 hst
            go_wp2_with fail
            go_roundw
            case rel => exact ⟨i + 1, by omega, by go_num, _, _, HBL8.out, HTF8.out, HTN8.out, HSP8.out, HT8.out, HT8.out.size⟩
            case measure => simp [intOf]; omega
      · have ei : i = n := by omega
        have hd1 : decide (i < n) = false := decide_eq_false hin
        have hd2 : decide ((i : Int) < n) = false := decide_eq_false (by omega)
        have hd3 : decide (n ≤ i) = true := decide_eq_true (by omega)
        rw [ei] at HTF HTN
        have HEI := Lib.hid ei
        clear ei
        obtain ⟨gF, cF, rfl, -, -⟩ := HTF.out.form h1
        obtain ⟨gN, cN, rfl, -, -⟩ := HTN.out.form h1
        have k0 := HBL.out.cell 0
        have k1 := HBL.out.cell 1
        have k2 := HBL.out.cell 2
        have k3 := HBL.out.cell 3
        simp at k0 k1 k2 k3
        have hrs := HRS2.out.below HBW.out HP.out
        have r0 := hrs.cell 0
        have r1 := hrs.cell 1
        have r2 := hrs.cell 2
        have r3 := hrs.cell 3
        have s0 := hrs.frozen 0
        have s1 := hrs.frozen 1
        have s2 := hrs.frozen 2
        have s3 := hrs.frozen 3
        simp at r0 r1 r2 r3
        have hs0 := hrs.set_ 0 (.slice zA (leftN jj m) zc)
        have hs1 := hs0.set_ 1 (.bool po)
        have hs2 := hs1.set_ 2 (.slice (some ⟨gF, 0, none⟩) n cF)
        have hs3 := hs2.set_ 3 (.slice (some ⟨gN, 0, none⟩) n cN)
        simp at hs3
        have HS3 := Lib.hid hs3
        have hOb : ∀ b, (Value.slice zA (leftN jj m) zc).ownBlock = some b → w.heap.size ≤ b ∧ b < wc.heap.size ∧ b ≠ p ∧ b ≠ q1 + 1 := fun b hb => by
          have h0 := World.ownsRow.lt HO.out b hb
          rcases HO.out.2 with ⟨hv, _⟩ | ⟨g, cap, cur, hv, hb', hg, _⟩
          · rw [hv] at hb; cases hb
          · have eg : g = b := by rw [hv] at hb; simpa [Value.ownBlock] using hb
            subst eg
            refine ⟨h0.1, h0.2, fun e => ?_, fun e => ?_⟩
            · have := HPB.out
              unfold Blk at this
              rw [← e, hg] at this
              simp at this
            · have := HRS2.out
              unfold Blk at this
              rw [← e, hg] at this
              simp at this
        have HOB := Lib.hid hOb
        clear hOb
        have HBB : Hid (Below w.heap.size w wr) := HB.out.trans (HBW.out.mono (by have := HP.out; have := HQ.out; omega))
        clear hrs hs0 hs1 hs2 hs3
        go_wp2_with fail
        have hpp := HP.out
        have hqq := HQ.out
        refine bodyPost_ret (results_cell_row rfl _ _ _ _ _ (0, 0) _ rfl HS3.out Tryd.underlying65 rfl (by kernel_rfl)) rfl ?_
        have hset : ∀ b, w.heap.size ≤ b → b ≠ q1 + 1 → (((((wr.setCell ⟨q1 + 1, 0, none⟩ (.slice zA (leftN jj m) zc)).setCell ⟨q1 + 1, 1, none⟩ (.bool po)).setCell ⟨q1 + 1, 2, none⟩ (.slice (some ⟨gF, 0, none⟩) n cF)).setCell ⟨q1 + 1, 3, none⟩ (.slice (some ⟨gN, 0, none⟩) n cN)).heap[b]? = wr.heap[b]?) := fun b _ hb => by
          rw [Below.heap_setCell _ _ _ _ hb, Below.heap_setCell _ _ _ _ hb, Below.heap_setCell _ _ _ _ hb, Below.heap_setCell _ _ _ _ hb]
        refine ⟨_, _, _, rfl, ?_, ?_, ?_, ?_⟩
        · refine ⟨HO.out.1, ?_⟩
          rcases HO.out.2 with h' | ⟨g, cap, cur, hv, hb', hg, hrest⟩
          · exact .inl h'
          · have hgb := HOB.out g (by rw [hv]; rfl)
            exact .inr ⟨g, cap, cur, hv, hb', (hset g hgb.1 hgb.2.2.2).trans ((HTW.out.block g hgb.2.1 hgb.2.2.1).trans hg), hrest⟩
        · exact (HTF.out.same fun b hb _ => hset b (by have := HPB.out.lt; omega) (by have := HPB.out.lt; omega)).lift (by have := HPB.out.lt; omega)
        · exact (HTN.out.same fun b hb _ => hset b (by have := HPB.out.lt; omega) (by have := HPB.out.lt; omega)).lift (by have := HPB.out.lt; omega)
        · exact (((HBB.out.setCell (by show _ ≤ q1 + 1; omega) _).setCell (by show _ ≤ q1 + 1; omega) _).setCell (by show _ ≤ q1 + 1; omega) _).setCell (by show _ ≤ q1 + 1; omega) _

end Go.Proofs.YtlbdbfmgkappaaaDoor

/- The reference's line: Stepped. -/
namespace Go.Proofs.YtlbdbfmgkappaaaDoor
open Go.RowKit
set_option linter.unusedVariables false

/-- Before node i, its row's entry o, neighbour k. -/
def stepP (po : Bool) (n : Nat) (K : Nat → Nat → Int) (F G : Nat → Nat → Int) (i o k r t : Nat) : Int × Int :=
  if r < i ∨ (r = i ∧ t < o) then thinkF po n t K (fun q => F q t) (fun q => G q t) r
  else if r = i ∧ t = o then (if i = o then (0, -1) else bestF po K (fun q => F q t) (fun q => G q t) i k) else (oneF r t, -1)

section
variable {po : Bool} {n : Nat} {K F G : Nat → Nat → Int} {i o k r t : Nat}
theorem stepP_start : (oneF r t, (-1 : Int)) = stepP po n K F G 0 0 0 r t := by
  unfold stepP
  rw [if_neg (by omega)]
  by_cases h : r = 0 ∧ t = 0
  · obtain ⟨rfl, rfl⟩ := h
    rw [if_pos ⟨rfl, rfl⟩, if_pos rfl]
    unfold oneF
    rw [if_pos rfl]
  · rw [if_neg h]
theorem stepP_o (ho : o < n) : stepP po n K F G i o n r t = stepP po n K F G i (o + 1) 0 r t := by
  unfold stepP
  by_cases h : r < i ∨ (r = i ∧ t < o)
  · rw [if_pos h, if_pos (by omega)]
  · rw [if_neg h]
    by_cases h1 : r = i ∧ t = o
    · obtain ⟨rfl, rfl⟩ := h1
      rw [if_pos (show r = r ∧ t = t from ⟨rfl, rfl⟩), if_pos (show r < r ∨ (r = r ∧ t < t + 1) by omega)]
      unfold thinkF
      rfl
    · rw [if_neg h1, if_neg (by omega)]
      by_cases h2 : r = i ∧ t = o + 1
      · obtain ⟨rfl, rfl⟩ := h2
        rw [if_pos ⟨rfl, rfl⟩]
        unfold oneF bestF
        by_cases e : r = o + 1
        · rw [if_pos e, if_pos e]
        · rw [if_neg e, if_neg e]
      · rw [if_neg h2]
theorem stepP_i (ht : t < n) : stepP po n K F G i n 0 r t = stepP po n K F G (i + 1) 0 0 r t := by
  unfold stepP
  by_cases h : r < i ∨ (r = i ∧ t < n)
  · rw [if_pos h, if_pos (by omega)]
  · rw [if_neg h, if_neg (by omega), if_neg (by omega)]
    by_cases h2 : r = i + 1 ∧ t = 0
    · obtain ⟨rfl, rfl⟩ := h2
      rw [if_pos ⟨rfl, rfl⟩, if_neg (by omega)]
      unfold oneF bestF
      rw [if_neg (by omega)]
    · rw [if_neg h2]
theorem stepP_end (hr : r < n) : stepP po n K F G n 0 0 r t = thinkF po n t K (fun q => F q t) (fun q => G q t) r := by
  unfold stepP
  rw [if_pos (.inl hr)]
theorem stepP_at : stepP po n K F G i o k i o = if i = o then (0, -1) else bestF po K (fun q => F q o) (fun q => G q o) i k := by
  unfold stepP
  rw [if_neg (by omega), if_pos ⟨rfl, rfl⟩]
theorem stepP_skip (h : k = i ∨ o = i ∨ ¬ K i k < 16 ∨ ¬ K i k + toldF po (fun q => F q o) (fun q => G q o) i k < (bestF po K (fun q => F q o) (fun q => G q o) i k).1) : stepP po n K F G i o k r t = stepP po n K F G i o (k + 1) r t := by
  unfold stepP
  by_cases h0 : r < i ∨ (r = i ∧ t < o)
  · rw [if_pos h0, if_pos h0]
  · rw [if_neg h0, if_neg h0]
    by_cases h1 : r = i ∧ t = o
    · obtain ⟨rfl, rfl⟩ := h1
      have e0 : r = r ∧ t = t := ⟨rfl, rfl⟩
      rw [if_pos e0, if_pos e0]
      by_cases e : r = t
      · rw [if_pos e, if_pos e]
      · rw [if_neg e, if_neg e]
        refine (if_neg ?_).symm
        rintro ⟨h2, h3, h4⟩
        rcases h with h | h | h | h
        · exact h2 h
        · exact e h.symm
        · exact h h3
        · exact h h4
    · rw [if_neg h1, if_neg h1]
theorem stepP_take (h1 : k ≠ i) (h2 : o ≠ i) (h3 : K i k < 16) (h4 : K i k + toldF po (fun q => F q o) (fun q => G q o) i k < (bestF po K (fun q => F q o) (fun q => G q o) i k).1) :
    (if r = i ∧ t = o then (K i k + toldF po (fun q => F q o) (fun q => G q o) i k, (k : Int)) else stepP po n K F G i o k r t) = stepP po n K F G i o (k + 1) r t := by
  unfold stepP
  by_cases h : r = i ∧ t = o
  · obtain ⟨rfl, rfl⟩ := h
    rw [if_pos ⟨rfl, rfl⟩, if_neg (by omega), if_pos ⟨rfl, rfl⟩, if_neg (fun e => h2 e.symm)]
    show _ = (if k ≠ r ∧ K r k < 16 ∧ K r k + toldF po (fun q => F q t) (fun q => G q t) r k < (bestF po K (fun q => F q t) (fun q => G q t) r k).1 then _ else _)
    rw [if_pos ⟨h1, h3, h4⟩]
  · rw [if_neg h, if_neg h, if_neg h]
end

/-- Where Stepped stands: what came in, its own blocks, the tables under way. -/
structure QW (w0 w : World) (q1 p : Nat) (cs : Array Value) (A : Option Addr) (m cp : Nat) (po : Bool) (b0 mid gF : Nat) (vF vN : Value) (BF CF BN CN : Nat → Nat) (n : Nat) (T : Nat → Nat → Int × Int) : Prop where
  box : Blk w q1 65 cs
  res : Blk w (q1 + 1) 65 #[.slice none 0 0, .bool false, .slice none 0 0, .slice none 0 0]
  own : Blk w p 65 #[.slice A m cp, .bool po, vF, vN]
  apart : Apart w b0 mid gF vF vN BF CF BN CN n (fun r t => (T r t).1) (fun r t => (T r t).2)
  bel : Below w0.heap.size w0 w
  lo : w0.heap.size ≤ b0

section
variable {w0 w w' : World} {q1 p b0 mid gF n : Nat} {cs : Array Value} {A : Option Addr} {m cp : Nat} {po : Bool} {vF vN : Value} {BF CF BN CN : Nat → Nat} {T T' : Nat → Nat → Int × Int}
theorem QW.drewN (h : QW w0 w q1 p cs A m cp po b0 mid gF vF vN BF CF BN CN n T) (k : Nat) : QW w0 (w.drewN k) q1 p cs A m cp po b0 mid gF vF vN BF CF BN CN n T :=
  ⟨h.box, h.res, h.own, h.apart.same fun _ _ _ => rfl, below_drewN h.bel k, h.lo⟩
theorem QW.congr (h : QW w0 w q1 p cs A m cp po b0 mid gF vF vN BF CF BN CN n T) (e : ∀ r t, r < n → t < n → T r t = T' r t) : QW w0 w q1 p cs A m cp po b0 mid gF vF vN BF CF BN CN n T' :=
  ⟨h.box, h.res, h.own, h.apart.congr fun r t hr ht => by rw [e r t hr ht]; exact ⟨rfl, rfl⟩, h.bel, h.lo⟩
theorem QW.set (h : QW w0 w q1 p cs A m cp po b0 mid gF vF vN BF CF BN CN n T) {r : Nat} (hr : r < n) (k : Nat) (x y : Int) :
    QW w0 ((w.setCell ⟨BF r, k, none⟩ (.int .i64 x)).setCell ⟨BN r, k, none⟩ (.int .i64 y)) q1 p cs A m cp po b0 mid gF vF vN BF CF BN CN n (fun u t => if u = r ∧ t = k then (x, y) else T u t) := by
  have h1 := (h.apart.one.row r hr)
  have h2 := (h.apart.two.row r hr)
  have n1 : ∀ {g : Nat} {cs : Array Value}, Blk w g 65 cs → g ≠ BF r := fun hb e => by
    subst e
    obtain ⟨c, hc, -⟩ := h1.2
    unfold Blk at hb
    rw [hb] at hc
    simp at hc
  have n2 : ∀ {g : Nat} {cs : Array Value}, Blk w g 65 cs → g ≠ BN r := fun hb e => by
    subst e
    obtain ⟨c, hc, -⟩ := h2.2
    unfold Blk at hb
    rw [hb] at hc
    simp at hc
  refine ⟨(h.box.far (p := ⟨BF r, k, none⟩) (n1 h.box) _).far (p := ⟨BN r, k, none⟩) (n2 h.box) _, (h.res.far (p := ⟨BF r, k, none⟩) (n1 h.res) _).far (p := ⟨BN r, k, none⟩) (n2 h.res) _, (h.own.far (p := ⟨BF r, k, none⟩) (n1 h.own) _).far (p := ⟨BN r, k, none⟩) (n2 h.own) _, ?_, (h.bel.setCell (Nat.le_trans h.lo h1.1) _).setCell (Nat.le_trans h.lo (Nat.le_trans h.apart.le h2.1)) _, h.lo⟩
  refine ((h.apart.setF hr k x).setG hr k y).congr fun u t _ _ => ?_
  by_cases e : u = r ∧ t = k
  · rw [if_pos e, if_pos e, if_pos e]; exact ⟨rfl, rfl⟩
  · rw [if_neg e, if_neg e, if_neg e]; exact ⟨rfl, rfl⟩
theorem QW.ne (h : QW w0 w q1 p cs A m cp po b0 mid gF vF vN BF CF BN CN n T) {r : Nat} (hr : r < n) : p ≠ BF r := fun e => by
  obtain ⟨c, hc, -⟩ := (h.apart.one.row r hr).2
  have hb := h.own
  unfold Blk at hb
  rw [← e, hb] at hc
  simp at hc
end

set_option maxRecDepth 100000 in
set_option maxHeartbeats 4000000 in
theorem stepped_q (n : Nat) (A FA NA : Option Addr) (m cp fc nc : Nat) (a b c : Nat → Int) (po : Bool) (F G : Nat → Nat → Int) (w : World) (hl : Lnk w A m a b c) (hm : m ≤ 9223372036854775807) (hr : Right n m a b c)
    (hF : Mat w FA n (fun _ => n) F) (hN : Mat w NA n (fun _ => n) G) (h1 : 1 ≤ n) (h8 : n ≤ 8) (hrg : ∀ k t, k < n → t < n → 0 ≤ F k t ∧ F k t ≤ 16) :
    Calls Tryd.prog 31 #[.agg #[.slice A m cp, .bool po, .slice FA n fc, .slice NA n nc]] w fun e w' => ∃ vF vN b0 mid gF BF CF BN CN, e = .returned (.agg #[.slice A m cp, .bool po, vF, vN]) ∧
      w.heap.size ≤ b0 ∧ Apart w' b0 mid gF vF vN BF CF BN CN n (fun i t => (thinkF po n t (costF m a b c) (fun k => F k t) (fun k => G k t) i).1) (fun i t => (thinkF po n t (costF m a b c) (fun k => F k t) (fun k => G k t) i).2) ∧ Below w.heap.size w w' := by
  have h1' : (1 : Int) ≤ n := by omega
  have h8' : (n : Int) ≤ 8 := by omega
  obtain ⟨fa, rfl⟩ := hF.some_ h1
  obtain ⟨na, rfl⟩ := hN.some_ h1
  have HL := Lib.hid hl
  have HR := Lib.hid hr
  have HF := Lib.hid hF
  have HN := Lib.hid hN
  have HRG := Lib.hid hrg
  clear hl hr hF hN hrg
  go_enter Tryd.func31, Tryd.ntmps31
  go_wp2_with fail
  have hcall := newLine_walk n n rfl A m cp po ((w.alloc (.cells #[.slice A m cp, .bool po, .slice (some fa) n fc, .slice (some na) n nc] 65)).alloc (.cells #[.slice none 0 0, .bool false, .slice none 0 0, .slice none 0 0] 65)) h1 h8
  refine hcall.mono ?_
  clear hcall
  rintro e w1 ⟨vF, vN, mid, gF, BF, CF, BN, CN, rfl, hA, hb⟩
  have hsz : ((w.alloc (.cells #[Value.slice A m cp, .bool po, .slice (some fa) n fc, .slice (some na) n nc] 65)).alloc (.cells #[.slice none 0 0, .bool false, .slice none 0 0, .slice none 0 0] 65)).heap.size = w.heap.size + 1 + 1 := by simp
  rw [hsz] at hA hb
  obtain ⟨q1, hq1⟩ : ∃ q1, w.heap.size = q1 := ⟨_, rfl⟩
  have hbx : Blk w1 q1 65 #[.slice A m cp, .bool po, .slice (some fa) n fc, .slice (some na) n nc] := by
    rw [← hq1]
    exact ((Blk.new w _ _).alloc _).below hb (by omega)
  have hrs : Blk w1 (q1 + 1) 65 #[.slice none 0 0, .bool false, .slice none 0 0, .slice none 0 0] := by
    rw [← hq1]
    have := Blk.new (w.alloc (.cells #[Value.slice A m cp, .bool po, .slice (some fa) n fc, .slice (some na) n nc] 65)) 65 #[.slice none 0 0, .bool false, .slice none 0 0, .slice none 0 0]
    rw [show (w.alloc (.cells #[Value.slice A m cp, .bool po, .slice (some fa) n fc, .slice (some na) n nc] 65)).heap.size = w.heap.size + 1 by simp] at this
    exact this.below hb (by omega)
  have hbw : Below w.heap.size w w1 := (((Below.refl _ _).alloc (Nat.le_refl _) _).alloc (by simp) _).trans (hb.mono (by omega))
  obtain ⟨cF, eF⟩ := hA.out
  subst eF
  obtain ⟨gN, cN, rfl, -, -, -, -⟩ := hA.two.cells h1
  have HA := Lib.hid hA
  have HBX := Lib.hid hbx
  have HRS := Lib.hid hrs
  have HBW := Lib.hid hbw
  have HQ := Lib.hid hq1
  rw [hq1]
  clear hA hb hsz hbx hrs hbw hq1
  go_wp2_with fail
  obtain ⟨p, hp⟩ : ∃ p, w1.heap.size = p := ⟨_, rfl⟩
  have hpb := Blk.new w1 65 #[.slice A m cp, .bool po, .slice (some ⟨gF, 0, none⟩) n cF, .slice (some ⟨gN, 0, none⟩) n cN]
  have HQW : Hid (QW w (w1.alloc (.cells #[.slice A m cp, .bool po, .slice (some ⟨gF, 0, none⟩) n cF, .slice (some ⟨gN, 0, none⟩) n cN] 65)) q1 p #[.slice A m cp, .bool po, .slice (some fa) n fc, .slice (some na) n nc] A m cp po (w.heap.size + 1 + 1 + 1) mid gF (.slice (some ⟨gF, 0, none⟩) n cF) (.slice (some ⟨gN, 0, none⟩) n cN) BF CF BN CN n (stepP po n (costF m a b c) F G 0 0 0)) := by
    have hq : QW w (w1.alloc (.cells #[.slice A m cp, .bool po, .slice (some ⟨gF, 0, none⟩) n cF, .slice (some ⟨gN, 0, none⟩) n cN] 65)) q1 p #[.slice A m cp, .bool po, .slice (some fa) n fc, .slice (some na) n nc] A m cp po (w.heap.size + 1 + 1 + 1) mid gF (.slice (some ⟨gF, 0, none⟩) n cF) (.slice (some ⟨gN, 0, none⟩) n cN) BF CF BN CN n (fun r t => (oneF r t, -1)) :=
      ⟨HBX.out.alloc _, HRS.out.alloc _, hp ▸ hpb, HA.out.below ((Below.refl _ _).alloc (Nat.le_refl _) _), HBW.out.alloc HBW.out.size _, by omega⟩
    exact hq.congr fun r t _ _ => stepP_start
  rw [hp]
  obtain ⟨wa, hwa⟩ : ∃ wa, w1.alloc (.cells #[.slice A m cp, .bool po, .slice (some ⟨gF, 0, none⟩) n cF, .slice (some ⟨gN, 0, none⟩) n cN] 65) = wa := ⟨_, rfl⟩
  rw [hwa] at HQW ⊢
  clear hp hpb hwa HA HBX HRS HBW
  go_loopw [5] (fun q wr => ∃ i : Nat, i ≤ n ∧ q = .int .i64 i ∧ QW w wr q1 p #[.slice A m cp, .bool po, .slice (some fa) n fc, .slice (some na) n nc] A m cp po (w.heap.size + 1 + 1 + 1) mid gF (.slice (some ⟨gF, 0, none⟩) n cF) (.slice (some ⟨gN, 0, none⟩) n cN) BF CF BN CN n (stepP po n (costF m a b c) F G i 0 0)) (fun q _ => n - (intOf q).toNat)
  case atStart => exact ⟨0, by omega, rfl, HQW.out⟩
  case round =>
    obtain ⟨i, hi, rfl, hq⟩ := hrel
    have HQ1 := Lib.hid hq
    clear hq HQW
    by_cases hin : i < n
    · have hin' : (i : Int) < n := by omega
      go_wp2_with fail
      go_loopw [6] (fun q wr => ∃ o : Nat, o ≤ n ∧ q = .int .i64 o ∧ QW w wr q1 p #[.slice A m cp, .bool po, .slice (some fa) n fc, .slice (some na) n nc] A m cp po (w.heap.size + 1 + 1 + 1) mid gF (.slice (some ⟨gF, 0, none⟩) n cF) (.slice (some ⟨gN, 0, none⟩) n cN) BF CF BN CN n (stepP po n (costF m a b c) F G i o 0)) (fun q _ => n - (intOf q).toNat)
      case atStart => exact ⟨0, by omega, rfl, HQ1.out⟩
      case round =>
        obtain ⟨o, ho, rfl, hq⟩ := hrel
        have HQ2 := Lib.hid hq
        clear hq HQ1
        by_cases hon : o < n
        · have hon' : (o : Int) < n := by omega
          go_wp2_with fail
          go_loopw [7] (fun q wr => ∃ k : Nat, k ≤ n ∧ q = .int .i64 k ∧ QW w wr q1 p #[.slice A m cp, .bool po, .slice (some fa) n fc, .slice (some na) n nc] A m cp po (w.heap.size + 1 + 1 + 1) mid gF (.slice (some ⟨gF, 0, none⟩) n cF) (.slice (some ⟨gN, 0, none⟩) n cN) BF CF BN CN n (stepP po n (costF m a b c) F G i o k)) (fun q _ => n - (intOf q).toNat)
          case atStart => exact ⟨0, by omega, rfl, HQ2.out⟩
          case round =>
            obtain ⟨k, hk, rfl, hq⟩ := hrel
            have HQ3 := Lib.hid hq
            have bx := hq.box
            clear hq HQ2
            by_cases hkn : k < n
            · have hkn' : (k : Int) < n := by omega
              have x0 := bx.cell 0
              have x1 := bx.cell 1
              have x2 := bx.cell 2
              have x3 := bx.cell 3
              simp at x0 x1 x2 x3
              clear bx
              obtain ⟨cc, hcc⟩ : ∃ cc, costF m a b c i k = cc := ⟨_, rfl⟩
              have HCC : Hid (costV m a b c i k = cc) := hcc
              have HCK : Hid (costF m a b c i k = cc) := hcc
              clear hcc
              go_wp2_with fail
              have hcall := costOf_walk A m cp a b c i k wr (HL.out.keep HQ3.out.bel) hm cc HCC.out
              refine hcall.mono ?_
              clear hcall
              rintro e w4 ⟨rfl, h4⟩
              subst w4
              by_cases hki : k = i
              · subst hki
                go_wp2_with fail
                go_roundw
                case rel => exact ⟨k + 1, by omega, by go_num, HQ3.out.congr fun r t _ _ => stepP_skip (.inl rfl)⟩
                case measure => simp [intOf]; omega
              · have g1 : ((k : Int) == (i : Int)) = false := beq_false_of_ne (by omega)
                have g1' : (k == i) = false := beq_false_of_ne hki
                by_cases hoi : o = i
                · subst hoi
                  go_wp2_with fail
                  go_roundw
                  case rel => exact ⟨k + 1, by omega, by go_num, HQ3.out.congr fun r t _ _ => stepP_skip (.inr (.inl rfl))⟩
                  case measure => simp [intOf]; omega
                · have g2 : ((o : Int) == (i : Int)) = false := beq_false_of_ne (by omega)
                  have g2' : (o == i) = false := beq_false_of_ne hoi
                  by_cases hc16 : cc = 16
                  · subst hc16
                    have HSK : Hid (∀ r t, stepP po n (costF m a b c) F G i o k r t = stepP po n (costF m a b c) F G i o (k + 1) r t) := fun r t => stepP_skip (.inr (.inr (.inl (by rw [HCK.out]; omega))))
                    go_wp2_with fail
                    go_roundw
                    case rel => exact ⟨k + 1, by omega, by go_num, HQ3.out.congr fun r t _ _ => HSK.out r t⟩
                    case measure => simp [intOf]; omega
                  · have g3 : (cc == 16) = false := beq_false_of_ne hc16
                    have hcr : 0 ≤ cc ∧ cc ≤ 16 := by rw [← HCC.out]; exact costV_ranged HR.out i k
                    obtain ⟨hc0, hc16'⟩ := hcr
                    obtain ⟨Ai, ci, y1, y2⟩ := Mat.at_ h1 (HF.out.keep HQ3.out.bel) hkn hon
                    obtain ⟨Bi, di, z1, z2⟩ := Mat.at_ h1 (HN.out.keep HQ3.out.bel) hkn hon
                    have hfr := HRG.out k o hkn hon
                    obtain ⟨fv, hfv⟩ : ∃ fv, F k o = fv := ⟨_, rfl⟩
                    obtain ⟨gv, hgv⟩ : ∃ gv, G k o = gv := ⟨_, rfl⟩
                    rw [hfv] at y2 hfr
                    rw [hgv] at z2
                    obtain ⟨bb, hbb⟩ : ∃ bb, (bestF po (costF m a b c) (fun q => F q o) (fun q => G q o) i k).1 = bb := ⟨_, rfl⟩
                    have hb16 : bb ≤ 16 := by rw [← hbb]; exact best_le i k
                    obtain ⟨g', c', e', -, -, hcF, -⟩ := HQ3.out.apart.one.cells h1
                    simp at e'
                    obtain ⟨rfl, rfl⟩ := e'
                    obtain ⟨g', c', e', hgN, -, hcN, -⟩ := HQ3.out.apart.two.cells h1
                    simp at e'
                    obtain ⟨rfl, rfl⟩ := e'
                    have hlow := HQ3.out.apart.low.2 i hin
                    have hbn := (HQ3.out.apart.two.row i hin).1
                    have ne1 : gN ≠ BF i := by omega
                    have ne2 : BN i ≠ BF i := by omega
                    have ne3 : p ≠ BF i := HQ3.out.ne hin
                    clear hlow hbn hgN
                    have u1 := hcF i hin
                    have u2 := hcN i hin
                    have hrF := (HQ3.out.apart.one.row i hin).2
                    have hrN := (HQ3.out.apart.two.row i hin).2
                    have v1 := hrF.cell hon
                    have v2 := hrN.cell hon
                    rw [stepP_at, if_neg (fun e => hoi e.symm)] at v1 v2
                    rw [hbb] at v1
                    have HBB := Lib.hid hbb
                    have HFV := Lib.hid hfv
                    have HGV := Lib.hid hgv
                    have p2 := HQ3.out.own.cell 2
                    have p3 := HQ3.out.own.cell 3
                    simp at p2 p3
                    clear hbb hfv hgv hcF hcN
                    cases po with
                    | false =>
                      have HD : Hid (toldF false (fun q => F q o) (fun q => G q o) i k = fv) := by
                        show toldF false (fun q => F q o) (fun q => G q o) i k = fv
                        unfold toldF
                        rw [if_neg (by simp)]; exact HFV.out
                      have hd0 : 0 ≤ fv ∧ fv ≤ 16 := by first | exact hfr | omega
                      obtain ⟨hd0, hd1⟩ := hd0
                      by_cases hlt : cc + fv < bb
                      · have hmin : min (cc + fv) 16 = cc + fv := by omega
                        have HMIN := Lib.hid hmin
                        clear hmin
                        have HPL : Hid (∀ W, Calls Tryd.prog 60 #[.int .i64 cc, .int .i64 fv] W fun e w' => e = .returned (.int .i64 (cc + fv)) ∧ w' = W) := fun W => (plus_walk cc fv W hc0 hc16' hd0 hd1).mono fun _ _ h => ⟨h.1.trans (by rw [HMIN.out]), h.2⟩
                        have HST : Hid (∀ r t, (if r = i ∧ t = o then (cc + fv, (k : Int)) else stepP false n (costF m a b c) F G i o k r t) = stepP false n (costF m a b c) F G i o (k + 1) r t) := fun r t => by
                          rw [← stepP_take hki hoi (by rw [HCK.out]; omega) (by rw [HCK.out, HD.out, HBB.out]; exact hlt), HCK.out, HD.out]
                        have f1 := hrF.frozen o
                        have f2 := hrN.frozen o
                        have hq5 := HQ3.out.set hin o (cc + fv) k
                        have HQ5 := Lib.hid (hq5.congr fun r t _ _ => HST.out r t)
                        clear hq5 hrF hrN
                        go_wp2_with fail
                        go_quiet ((go_at_call 60; first | exact Calls.quiet_of_same ((plus_walk cc fv _ hc0 hc16' hd0 hd1).mono fun _ _ h => ⟨h.1.trans (by rw [HMIN.out]), h.2⟩) | exact quiet_adds ((plus_walk cc fv _ hc0 hc16' hd0 hd1).mono fun _ _ h => ⟨h.1.trans (by rw [HMIN.out]), 0, h.2⟩)))
                        go_wp2_with fail
                        go_region_law (go_simp; refine (HPL.out _).mono ?_; rintro e w6 ⟨rfl, hw6⟩; subst w6)
                        all_goals
                          go_wp2_with fail
                          go_roundw
                          case rel => exact ⟨k + 1, by omega, by go_num, HQ5.out.drewN _⟩
                          case measure => simp [intOf]; omega
                      · have hmin : ¬ min (cc + fv) 16 < bb := by omega
                        have hdm : decide (min (cc + fv) 16 < bb) = false := decide_eq_false hmin
                        clear hrF hrN hmin
                        have HSK : Hid (∀ r t, stepP false n (costF m a b c) F G i o k r t = stepP false n (costF m a b c) F G i o (k + 1) r t) := fun r t => stepP_skip (.inr (.inr (.inr (by rw [HCK.out, HD.out, HBB.out]; exact hlt))))
                        go_wp2_with fail
                        go_quiet ((go_at_call 60; first | exact Calls.quiet_of_same ((plus_walk cc fv _ hc0 hc16' hd0 hd1).mono fun _ _ h => ⟨h.1, h.2⟩) | exact quiet_adds ((plus_walk cc fv _ hc0 hc16' hd0 hd1).mono fun _ _ h => ⟨h.1, 0, h.2⟩)))
                        go_wp2_with fail
                        go_roundw
                        case rel => exact ⟨k + 1, by omega, by go_num, (HQ3.out.drewN _).congr fun r t _ _ => HSK.out r t⟩
                        case measure => simp [intOf]; omega
                    | true =>
                      by_cases hgi : gv = (i : Int)
                      · have g4 : (gv == (i : Int)) = true := by rw [hgi]; simp
                        have HD : Hid (toldF true (fun q => F q o) (fun q => G q o) i k = 16) := by
                          show toldF true (fun q => F q o) (fun q => G q o) i k = 16
                          unfold toldF
                          rw [if_pos ⟨rfl, by show G k o = _; rw [HGV.out]; exact hgi⟩]
                        have hd0 : (0 : Int) ≤ 16 ∧ (16 : Int) ≤ 16 := by omega
                        obtain ⟨hd0, hd1⟩ := hd0
                        have hlt : ¬ cc + 16 < bb := by omega
                        · have hmin : ¬ min (cc + 16) 16 < bb := by omega
                          have hdm : decide (min (cc + 16) 16 < bb) = false := decide_eq_false hmin
                          clear hrF hrN hmin
                          have HSK : Hid (∀ r t, stepP true n (costF m a b c) F G i o k r t = stepP true n (costF m a b c) F G i o (k + 1) r t) := fun r t => stepP_skip (.inr (.inr (.inr (by rw [HCK.out, HD.out, HBB.out]; exact hlt))))
                          go_wp2_with fail
                          go_quiet ((go_at_call 60; first | exact Calls.quiet_of_same ((plus_walk cc 16 _ hc0 hc16' hd0 hd1).mono fun _ _ h => ⟨h.1, h.2⟩) | exact quiet_adds ((plus_walk cc 16 _ hc0 hc16' hd0 hd1).mono fun _ _ h => ⟨h.1, 0, h.2⟩)))
                          go_wp2_with fail
                          go_roundw
                          case rel => exact ⟨k + 1, by omega, by go_num, (HQ3.out.drewN _).congr fun r t _ _ => HSK.out r t⟩
                          case measure => simp [intOf]; omega
                      · have g4 : (gv == (i : Int)) = false := beq_false_of_ne hgi
                        have HD : Hid (toldF true (fun q => F q o) (fun q => G q o) i k = fv) := by
                          show toldF true (fun q => F q o) (fun q => G q o) i k = fv
                          unfold toldF
                          rw [if_neg (fun h => hgi (by rw [← HGV.out]; exact h.2))]; exact HFV.out
                        have hd0 : 0 ≤ fv ∧ fv ≤ 16 := by first | exact hfr | omega
                        obtain ⟨hd0, hd1⟩ := hd0
                        by_cases hlt : cc + fv < bb
                        · have hmin : min (cc + fv) 16 = cc + fv := by omega
                          have HMIN := Lib.hid hmin
                          clear hmin
                          have HPL : Hid (∀ W, Calls Tryd.prog 60 #[.int .i64 cc, .int .i64 fv] W fun e w' => e = .returned (.int .i64 (cc + fv)) ∧ w' = W) := fun W => (plus_walk cc fv W hc0 hc16' hd0 hd1).mono fun _ _ h => ⟨h.1.trans (by rw [HMIN.out]), h.2⟩
                          have HST : Hid (∀ r t, (if r = i ∧ t = o then (cc + fv, (k : Int)) else stepP true n (costF m a b c) F G i o k r t) = stepP true n (costF m a b c) F G i o (k + 1) r t) := fun r t => by
                            rw [← stepP_take hki hoi (by rw [HCK.out]; omega) (by rw [HCK.out, HD.out, HBB.out]; exact hlt), HCK.out, HD.out]
                          have f1 := hrF.frozen o
                          have f2 := hrN.frozen o
                          have hq5 := HQ3.out.set hin o (cc + fv) k
                          have HQ5 := Lib.hid (hq5.congr fun r t _ _ => HST.out r t)
                          clear hq5 hrF hrN
                          go_wp2_with fail
                          go_quiet ((go_at_call 60; first | exact Calls.quiet_of_same ((plus_walk cc fv _ hc0 hc16' hd0 hd1).mono fun _ _ h => ⟨h.1.trans (by rw [HMIN.out]), h.2⟩) | exact quiet_adds ((plus_walk cc fv _ hc0 hc16' hd0 hd1).mono fun _ _ h => ⟨h.1.trans (by rw [HMIN.out]), 0, h.2⟩)))
                          go_wp2_with fail
                          go_region_law (go_simp; refine (HPL.out _).mono ?_; rintro e w6 ⟨rfl, hw6⟩; subst w6)
                          all_goals
                            go_wp2_with fail
                            go_roundw
                            case rel => exact ⟨k + 1, by omega, by go_num, HQ5.out.drewN _⟩
                            case measure => simp [intOf]; omega
                        · have hmin : ¬ min (cc + fv) 16 < bb := by omega
                          have hdm : decide (min (cc + fv) 16 < bb) = false := decide_eq_false hmin
                          clear hrF hrN hmin
                          have HSK : Hid (∀ r t, stepP true n (costF m a b c) F G i o k r t = stepP true n (costF m a b c) F G i o (k + 1) r t) := fun r t => stepP_skip (.inr (.inr (.inr (by rw [HCK.out, HD.out, HBB.out]; exact hlt))))
                          go_wp2_with fail
                          go_quiet ((go_at_call 60; first | exact Calls.quiet_of_same ((plus_walk cc fv _ hc0 hc16' hd0 hd1).mono fun _ _ h => ⟨h.1, h.2⟩) | exact quiet_adds ((plus_walk cc fv _ hc0 hc16' hd0 hd1).mono fun _ _ h => ⟨h.1, 0, h.2⟩)))
                          go_wp2_with fail
                          go_roundw
                          case rel => exact ⟨k + 1, by omega, by go_num, (HQ3.out.drewN _).congr fun r t _ _ => HSK.out r t⟩
                          case measure => simp [intOf]; omega
            · have ek : k = n := by omega
              subst ek
              go_wp2_with fail
              go_roundw
              case rel => exact ⟨o + 1, by omega, by go_num, HQ3.out.congr fun r t _ _ => stepP_o hon⟩
              case measure => simp [intOf]; omega
        · have eo : o = n := by omega
          subst eo
          go_wp2_with fail
          go_roundw
          case rel => exact ⟨i + 1, by omega, by go_num, HQ2.out.congr fun r t _ ht => stepP_i ht⟩
          case measure => simp [intOf]; omega
    · have ei : i = n := by omega
      subst ei
      have hq := HQ1.out.congr (T' := fun r t => thinkF po i t (costF m a b c) (fun k => F k t) (fun k => G k t) r) fun r t hr _ => stepP_end hr
      have k0 := hq.own.cell 0
      have k1 := hq.own.cell 1
      have k2 := hq.own.cell 2
      have k3 := hq.own.cell 3
      simp at k0 k1 k2 k3
      have r0 := hq.res.cell 0
      have r1 := hq.res.cell 1
      have r2 := hq.res.cell 2
      have r3 := hq.res.cell 3
      have q0 := hq.res.frozen 0
      have q1' := hq.res.frozen 1
      have q2 := hq.res.frozen 2
      have q3 := hq.res.frozen 3
      simp at r0 r1 r2 r3
      have hs0 := hq.res.set_ 0 (.slice A m cp)
      have hs1 := hs0.set_ 1 (.bool po)
      have hs2 := hs1.set_ 2 (.slice (some ⟨gF, 0, none⟩) i cF)
      have hs3 := hs2.set_ 3 (.slice (some ⟨gN, 0, none⟩) i cN)
      simp at hs3
      have HS3 := Lib.hid hs3
      have HAP := Lib.hid hq.apart
      have HBW := Lib.hid hq.bel
      clear hq hs0 hs1 hs2 hs3
      go_wp2_with fail
      have hqq := HQ.out
      refine bodyPost_ret (results_cell_row rfl _ _ _ _ _ (0, 0) _ rfl HS3.out Tryd.underlying65 rfl (by kernel_rfl)) rfl ?_
      refine ⟨_, _, w.heap.size + 1 + 1 + 1, mid, gF, BF, CF, BN, CN, rfl, by omega, HAP.out.same fun b hb _ => ?_, ?_⟩
      · rw [Below.heap_setCell _ _ _ _ (by show b ≠ q1 + 1; omega), Below.heap_setCell _ _ _ _ (by show b ≠ q1 + 1; omega), Below.heap_setCell _ _ _ _ (by show b ≠ q1 + 1; omega), Below.heap_setCell _ _ _ _ (by show b ≠ q1 + 1; omega)]
      · exact (((HBW.out.setCell (by show _ ≤ q1 + 1; omega) _).setCell (by show _ ≤ q1 + 1; omega) _).setCell (by show _ ≤ q1 + 1; omega) _).setCell (by show _ ≤ q1 + 1; omega) _

end Go.Proofs.YtlbdbfmgkappaaaDoor


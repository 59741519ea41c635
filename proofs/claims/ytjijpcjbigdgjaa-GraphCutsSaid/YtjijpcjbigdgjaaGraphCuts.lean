/- GraphCuts: a link that is cut is there no more, all others are; in whatever order links are told the costs are the same; a neighbour's neighbour is one. For all arguments; no condition. -/
import Derived.Test.YtjijpcjbigdgjaaOwnLk
import Derived.Test.YtjijpcjbigdgjaaMatLaws
import Derived.Deep.RegionHeld3
import Derived.Deep.RegionWith
namespace Go.Proofs.Ytjijpcjbigdgjaa
open Go.RowKit
set_option linter.unusedVariables false

/-- A table of two rows, written out. -/
theorem mat_lit22 (w : World) (x0 x1 y0 y1 : Int) (f : Nat → Nat → Int) (h00 : f 0 0 = x0) (h01 : f 0 1 = x1) (h10 : f 1 0 = y0) (h11 : f 1 1 = y1) :
    Mat (((w.alloc (.cells #[.int .i64 x0, .int .i64 x1] 3)).alloc (.cells #[.int .i64 y0, .int .i64 y1] 3)).alloc (.cells #[.slice (some ⟨w.heap.size, 0, none⟩) 2 2, .slice (some ⟨w.heap.size + 1, 0, none⟩) 2 2] 28))
      (some ⟨w.heap.size + 1 + 1, 0, none⟩) 2 (fun _ => 2) f := by
  have b0 := ((Blk.new w 3 #[.int .i64 x0, .int .i64 x1]).alloc (.cells #[.int .i64 y0, .int .i64 y1] 3)).alloc (.cells #[.slice (some ⟨w.heap.size, 0, none⟩) 2 2, .slice (some ⟨w.heap.size + 1, 0, none⟩) 2 2] 28)
  have b1 := (Blk.new (w.alloc (.cells #[.int .i64 x0, .int .i64 x1] 3)) 3 #[.int .i64 y0, .int .i64 y1]).alloc (.cells #[.slice (some ⟨w.heap.size, 0, none⟩) 2 2, .slice (some ⟨w.heap.size + 1, 0, none⟩) 2 2] 28)
  have b2 := Blk.new ((w.alloc (.cells #[.int .i64 x0, .int .i64 x1] 3)).alloc (.cells #[.int .i64 y0, .int .i64 y1] 3)) 28 #[.slice (some ⟨w.heap.size, 0, none⟩) 2 2, .slice (some ⟨w.heap.size + 1, 0, none⟩) 2 2]
  rw [show (w.alloc (.cells #[Value.int .i64 x0, .int .i64 x1] 3)).heap.size = w.heap.size + 1 by simp] at b1
  rw [show ((w.alloc (.cells #[Value.int .i64 x0, .int .i64 x1] 3)).alloc (.cells #[Value.int .i64 y0, .int .i64 y1] 3)).heap.size = w.heap.size + 1 + 1 by simp] at b2
  intro i hi
  have h : i = 0 ∨ i = 1 := by omega
  rcases h with rfl | rfl
  · refine ⟨_, some ⟨w.heap.size, 0, none⟩, 2, rfl, b2.lt, by rw [Addr.add_lit, Nat.zero_add, b2.cell]; rfl, vec_of_blk b0 fun j hj => ?_⟩
    have hj : j < 2 := hj
    have h : j = 0 ∨ j = 1 := by omega
    rcases h with rfl | rfl
    · rw [h00]; rfl
    · rw [h01]; rfl
  · refine ⟨_, some ⟨w.heap.size + 1, 0, none⟩, 2, rfl, b2.lt, by rw [Addr.add_lit, Nat.zero_add, b2.cell]; rfl, vec_of_blk b1 fun j hj => ?_⟩
    have hj : j < 2 := hj
    have h : j = 0 ∨ j = 1 := by omega
    rcases h with rfl | rfl
    · rw [h10]; rfl
    · rw [h11]; rfl

/-- The one link of the facts. -/
theorem lnk_lit1 (w : World) : Lnk (w.alloc (.cells #[.int .i64 0, .int .i64 1, .int .i64 3] 66)) (some ⟨w.heap.size, 0, none⟩) 1 (fun _ => 0) (fun _ => 1) (fun _ => 3) := by
  have h := Blk.new w 66 #[.int .i64 0, .int .i64 1, .int .i64 3]
  intro i hi
  obtain rfl : i = 0 := by omega
  exact ⟨_, rfl, h.lt, by rw [Addr.add_lit, h.cell]; rfl, by rw [Addr.add_lit, h.cell]; rfl, by rw [Addr.add_lit, h.cell]; rfl⟩
theorem right_lit1 : Right 2 1 (fun _ => 0) (fun _ => 1) (fun _ => 3) := by
  intro i hi
  obtain rfl : i = 0 := by omega
  exact ⟨by unfold LinkOk; decide, by decide, fun j hj => absurd hj (by omega)⟩
theorem good_lit1 : GoodG 2 1 (fun _ => 0) (fun _ => 1) (fun _ => 3) := ⟨by omega, by omega, right_lit1⟩

set_option maxRecDepth 100000 in
set_option maxHeartbeats 1000000 in
theorem linked_walk (w : World) :
    Calls Try.prog 38 #[] w fun e w' => e = .returned (.bool true) ∧ Below w.heap.size w w' := by
  go_enter Try.func38, Try.ntmps38
  go_wp2_with fail
  have hcall := costs_ok 2 2 rfl (some ⟨w.heap.size, 0, none⟩) 1 1 (fun _ => 0) (fun _ => 1) (fun _ => 3) _ (lnk_lit1 w) (by omega) good_lit1
  refine hcall.mono ?_
  clear hcall
  rintro e w1 ⟨g, cg, B, C, rfl, -, hat, hb⟩
  have HM := Lib.hid (hat.mat' (by omega))
  have HB : Hid (Below w.heap.size w w1) := keepAlloc (Below.refl _ _) hb
  clear hat hb
  go_wp2_with fail
  have hcall := rows_walk (some ⟨g, 0, none⟩) (some ⟨w1.heap.size + 1 + 1, 0, none⟩) 2 2 cg 2 (fun _ => 2) (fun _ => 2) (costF 1 (fun _ => 0) (fun _ => 1) (fun _ => 3)) (costF 1 (fun _ => 0) (fun _ => 1) (fun _ => 3)) _ (((HM.out.alloc' _).alloc' _).alloc' _) (mat_lit22 w1 0 3 3 0 _ (by decide) (by decide) (by decide) (by decide)) (by omega) (by omega) (fun _ _ => by omega) (fun _ _ => by omega) true ⟨fun _ => ⟨rfl, fun _ _ => ⟨rfl, fun _ _ => rfl⟩⟩, fun _ => rfl⟩
  refine hcall.mono ?_
  clear hcall
  rintro e w2 ⟨rfl, k, rfl⟩
  go_wp2_with fail
  go_ret
  exact ⟨rfl, below_drewN (((HB.out.alloc HB.out.size _).alloc (by simp; have := HB.out.size; omega) _).alloc (by simp; have := HB.out.size; omega) _) _⟩

/-- A table's row and its number, at two indices. -/
theorem Mat.at_ {w : World} {ad : Addr} {n : Nat} {f : Nat → Nat → Int} (h1 : 1 ≤ n) (h : Mat w (some ad) n (fun _ => n) f) {p q : Nat} (hp : p < n) (hq : q < n) :
    ∃ Ai ci, w.cell? (ad.add p) = some (.slice (some Ai) n ci) ∧ w.cell? (Ai.add q) = some (.int .i64 (f p q)) := by
  obtain ⟨Ai, ci, hci, _, hvi⟩ := h.sq h1 p hp
  exact ⟨Ai, ci, hci.1, hvi q hq⟩

theorem Mat.at_lit {w : World} {g : Nat} {n : Nat} {f : Nat → Nat → Int} (h1 : 1 ≤ n) (h : Mat w (some ⟨g, 0, none⟩) n (fun _ => n) f) {p q : Nat} (hp : p < n) (hq : q < n) :
    ∃ Ai ci, w.cell? ⟨g, p, none⟩ = some (.slice (some Ai) n ci) ∧ w.cell? (Ai.add q) = some (.int .i64 (f p q)) := by
  obtain ⟨Ai, ci, hc, hv⟩ := Mat.at_ h1 h hp hq
  rw [Addr.add_lit, Nat.zero_add] at hc
  exact ⟨Ai, ci, hc, hv⟩

/-- A cost behind a cut. -/
theorem cut_pair {n m j : Nat} {a b c : Nat → Int} (hr : Right n m a b c) (hj : j < m) {u v : Int} (hmt : Mt a b j u v) (p q : Nat) :
    costF (m - 1) (dropF j a) (dropF j b) (dropF j c) p q = if ((p : Int) = u ∧ (q : Int) = v) ∨ ((p : Int) = v ∧ (q : Int) = u) then 16 else costF m a b c p q := by
  rw [costF_drop hr hj p q]
  have hiff : ((p = nA a j ∧ q = nA b j) ∨ (p = nA b j ∧ q = nA a j)) ↔ (((p : Int) = u ∧ (q : Int) = v) ∨ ((p : Int) = v ∧ (q : Int) = u)) := by
    obtain ⟨-, -, -, -, -, ea, eb⟩ := right_nat hr hj
    unfold Mt at hmt
    rw [ea, eb] at hmt
    omega
  by_cases h : (p = nA a j ∧ q = nA b j) ∨ (p = nA b j ∧ q = nA a j)
  · rw [if_pos h, if_pos (hiff.1 h)]
  · rw [if_neg h, if_neg fun h' => h (hiff.2 h')]

theorem TabAt.lift {w w' : World} {base base' : Nat} {v : Value} {B C : Nat → Nat} {i n : Nat} {f : Nat → Nat → Int} (h : TabAt w base v B C i n f) (hb : base' ≤ base) : TabAt w base' v B C i n f := by
  refine ⟨⟨h.own.1, ?_⟩, fun r hr => ⟨Nat.le_trans hb (h.row r hr).1, (h.row r hr).2⟩, h.inj⟩
  rcases h.own.2 with h' | ⟨g, cap, cur, hv, hg, hrest⟩
  · exact .inl h'
  · exact .inr ⟨g, cap, cur, hv, Nat.le_trans hb hg, hrest⟩

set_option maxRecDepth 100000 in
set_option maxHeartbeats 8000000 in
theorem graphCuts_walk (x : Int) (A : Option Addr) (m cp : Nat) (a b c : Nat → Int) (u v y z : Int) (w : World) (hl : Lnk w A m a b c) (hm : m ≤ 9223372036854775807) :
    Calls Try.prog 13 #[.int .i64 x, .slice A m cp, .int .i64 u, .int .i64 v, .int .i64 y, .int .i64 z] w fun e w' => e = .returned (.bool true) ∧ Below w.heap.size w w' := by
  have HL := Lib.hid hl
  clear hl
  go_enter Try.func13, Try.ntmps13
  go_wp2_with fail
  refine (linked_walk w).mono ?_
  rintro e w1 ⟨rfl, hb1⟩
  have HB1 := Lib.hid hb1
  clear hb1
  go_wp2_with fail
  rcases graph_cases x m a b c with hg | ⟨k, hk, hf⟩
  · obtain ⟨n, rfl, hn1, hn8, hr⟩ := good_nat hg
    have hn8' : (n : Int) ≤ 8 := by omega
    have hm64 := right_small hr hn8
    have hm64' : (m : Int) ≤ 64 := by omega
    have HG := Lib.hid hg
    have HR := Lib.hid hr
    clear hg hr
    refine (graphCheck_good n A m cp a b c w1 (HL.out.keep HB1.out) hm HG.out).mono ?_
    rintro e w2 ⟨rfl, hb2⟩
    have HB2 := Lib.hid (keep HB1.out hb2)
    clear hb2 HB1
    rcases (show y < 0 ∨ (0 ≤ y ∧ (n : Int) ≤ y) ∨ (0 ≤ y ∧ y < n ∧ z < 0) ∨ (0 ≤ y ∧ y < n ∧ 0 ≤ z ∧ (n : Int) ≤ z) ∨ (0 ≤ y ∧ y < n ∧ 0 ≤ z ∧ z < n) by omega) with hx | ⟨hx0, hx1⟩ | ⟨hx0, hx1, hy⟩ | ⟨hx0, hx1, hy0, hy1⟩ | ⟨hx0, hx1, hy0, hy1⟩
    · go_wp2_with fail
      go_ret
      exact ⟨rfl, HB2.out⟩
    · go_wp2_with fail
      go_ret
      exact ⟨rfl, HB2.out⟩
    · go_wp2_with fail
      go_ret
      exact ⟨rfl, HB2.out⟩
    · go_wp2_with fail
      go_ret
      exact ⟨rfl, HB2.out⟩
    · have hd0 : decide (y < 0) = false := decide_eq_false (by omega)
      have hd1 : decide ((n : Int) ≤ y) = false := decide_eq_false (by omega)
      have hd2 : decide (z < 0) = false := decide_eq_false (by omega)
      have hd3 : decide ((n : Int) ≤ z) = false := decide_eq_false (by omega)
      go_wp2_with fail
      go_loopw [14, 15] (fun s i wr => ∃ r : Nat, r ≤ m ∧ i = .int .i64 ((m : Int) - 1 - r) ∧ OwnLk wr w2.heap.size s r (backF m b) (backF m a) (backF m c) ∧ Below w2.heap.size w2 wr) (fun _ i _ => (intOf i + 1).toNat)
      case atStart => exact ⟨0, by omega, by go_num, OwnLk.nil _ _ _ _ _, Below.refl _ _⟩
      case round =>
        obtain ⟨r, hr, rfl, hT, hb⟩ := hrel
        have HT := Lib.hid hT
        have HB := Lib.hid hb
        clear hT hb
        by_cases hlt : r < m
        · obtain ⟨t, ht⟩ : ∃ t, m - 1 - r = t := ⟨_, rfl⟩
          have hti : (m : Int) - 1 - r = t := by omega
          have htm : t < m := by omega
          have HTI := Lib.hid ht
          rw [hti]
          have htm' : (t : Int) < m := by omega
          have ht64 : (t : Int) ≤ 64 := by omega
          have HBW := Lib.hid (keep HB2.out HB.out)
          obtain ⟨ad, rfl, hc0, hc1, hc2⟩ := HL.out.cells HBW.out t htm
          have had : ad.block < w.heap.size := by
            obtain ⟨ad', e, hlt, -⟩ := HL.out t htm
            injection e with e
            subst e
            exact hlt
          have HS1 : Hid (LnkS ad t (a t) (b t) (c t) (wr.alloc (.cells #[.int .i64 (b t), .int .i64 (a t), .int .i64 (c t)] 66)).drew) :=
            LnkS.keep (w := wr) (B := wr.heap.size) ⟨hc0, hc1, hc2⟩ ((Below.refl _ _).alloc (Nat.le_refl _) _).drew (Nat.lt_of_lt_of_le had HBW.out.size)
          have HAD : Hid (ad.block < w2.heap.size) := Nat.lt_of_lt_of_le had HB2.out.size
          have hrm : r ≤ 1000000000000 := by omega
          clear ht hti had
          go_wp2_with fail
          go_region_held3 (fun w' => w'.cell? (ad.add (t * 3)) = some (.int .i64 (a t)) ∧ w'.cell? ⟨(ad.add (t * 3)).block, (ad.add (t * 3)).off + 1, none⟩ = some (.int .i64 (b t)) ∧ w'.cell? ⟨(ad.add (t * 3)).block, (ad.add (t * 3)).off + 2, none⟩ = some (.int .i64 (c t)))
            (first | exact HS1.out | exact LnkS.keep HS1.out hb3 HAD.out | go_keep)
            ((refine step_append_lnk rfl (.tmp 62) (.tmp 79) rfl w2.heap.size _ r (backF m b) (backF m a) (backF m c) rfl ((HT.out.alloc _).drew) (b t) (a t) (c t) ⟨wr.heap.size, 0, none⟩ rfl (cell_new3_at _ _ _ _ _ rfl) hrm (by have := HB.out.size; simp; omega) ?_; intro g3 cap3 w3 hT3 hb3))
          all_goals
            have HT3 : Hid (OwnLk w3 w2.heap.size (.slice (some ⟨g3, 0, none⟩) (r + 1) cap3) (r + 1) (backF m b) (backF m a) (backF m c)) := OwnLk.congr hT3 (fun i hi => by
                unfold upd
                by_cases e : i = r
                · subst e; rw [if_pos rfl]; unfold backF; rw [HTI.out]
                · rw [if_neg e]) (fun i hi => by
                unfold upd
                by_cases e : i = r
                · subst e; rw [if_pos rfl]; unfold backF; rw [HTI.out]
                · rw [if_neg e]) (fun i hi => by
                unfold upd
                by_cases e : i = r
                · subst e; rw [if_pos rfl]; unfold backF; rw [HTI.out]
                · rw [if_neg e])
            have HB3 : Hid (Below w2.heap.size w2 w3) := ((HB.out.alloc HB.out.size _).drew).trans hb3
            clear hT3 hb3 HT HB HBW hc0 hc1 hc2
            go_wp2_with fail
            go_roundw
            case rel => exact ⟨r + 1, by omega, congrArg (Value.int .i64) (by have := HTI.out; omega), HT3.out, HB3.out⟩
            case measure => simp [intOf]
        · have er : r = m := by omega
          subst er
          rw [show (r : Int) - 1 - (r : Int) = -1 by omega]
          obtain ⟨p, rfl⟩ : ∃ p : Nat, y = p := ⟨y.toNat, by omega⟩
          obtain ⟨q, rfl⟩ : ∃ q : Nat, z = q := ⟨z.toNat, by omega⟩
          have hp : p < n := by omega
          have hq : q < n := by omega
          obtain ⟨U, cu, rfl, hU⟩ := HT.out.lnk
          have HU := Lib.hid hU
          have HBW := Lib.hid (keep HB2.out HB.out)
          have HGB : Hid (GoodG n r (backF r b) (backF r a) (backF r c)) := ⟨HG.out.1, HG.out.2.1, by simpa using right_back HR.out⟩
          clear hU HT HB HB2
          go_wp2_with fail
          have hcall := costs_ok n n rfl A r cp a b c wr (HL.out.keep HBW.out) hm HG.out
          refine hcall.mono ?_
          clear hcall
          rintro e w3 ⟨g3, q3, B3, C3, rfl, -, hat3, hb3⟩
          have HM3 := Lib.hid (hat3.mat' hn1)
          have HU3 := Lib.hid (HU.out.keep hb3)
          have HB3 := Lib.hid (keep HBW.out hb3)
          clear hat3 hb3 HBW HU
          go_wp2_with fail
          have hcall := costs_ok n n rfl U r cu (backF r b) (backF r a) (backF r c) w3 HU3.out hm HGB.out
          refine hcall.mono ?_
          clear hcall
          rintro e w4 ⟨g4, q4, B4, C4, rfl, -, hat4, hb4⟩
          have HM4 := Lib.hid (hat4.mat' hn1)
          have HM34 := Lib.hid (HM3.out.keep hb4)
          have HB4 := Lib.hid (keep HB3.out hb4)
          clear hat4 hb4 HB3 HM3 HU3
          go_wp2_with fail
          have hcall := rows_walk (some ⟨g3, 0, none⟩) (some ⟨g4, 0, none⟩) n n q3 q4 (fun _ => n) (fun _ => n) _ _ w4 HM34.out HM4.out (by omega) (by omega) (fun _ _ => by omega) (fun _ _ => by omega) true ⟨fun _ => ⟨rfl, fun i hi => ⟨rfl, fun k hk => costF_back HR.out i k⟩⟩, fun _ => rfl⟩
          refine hcall.mono ?_
          clear hcall
          rintro e w5 ⟨rfl, k5, rfl⟩
          have HM5 := Lib.hid (HM34.out.drewN k5)
          have HB5 := Lib.hid (below_drewN HB4.out k5)
          clear HB4 HM34 HM4
          go_wp2_with fail
          have hcall := near_ok n p n p rfl rfl A r cp a b c (w4.drewN k5) (HL.out.keep HB5.out) hm HG.out hp
          refine hcall.mono ?_
          clear hcall
          rintro e w6 ⟨v6, rfl, hown6, hb6⟩
          obtain ⟨P6, c6, rfl, hP6⟩ := hown6.vec
          have HP6 := Lib.hid hP6
          have HM6 := Lib.hid (HM5.out.keep hb6)
          have HB6 := Lib.hid (keep HB5.out hb6)
          clear hown6 hP6 hb6 HB5 HM5
          go_wp2_with fail
          have hcall := near_ok n q n q rfl rfl A r cp a b c w6 (HL.out.keep HB6.out) hm HG.out hq
          refine hcall.mono ?_
          clear hcall
          rintro e w7 ⟨v7, rfl, hown7, hb7⟩
          obtain ⟨P7, c7, rfl, hP7⟩ := hown7.vec
          have HP7 := Lib.hid hP7
          have HP67 := Lib.hid (HP6.out.keep hb7)
          have HM7 := Lib.hid (HM6.out.keep hb7)
          have HB7 := Lib.hid (keep HB6.out hb7)
          clear hown7 hP7 hb7 HB6 HM6 HP6
          obtain ⟨Sp, sc, hs0, hs1⟩ := Mat.at_lit hn1 HM7.out hp hq
          obtain ⟨Tp, tc, ht0, ht1⟩ := Mat.at_lit hn1 HM7.out hq hp
          rw [← costF_sym HR.out p q] at ht1
          obtain ⟨bb, hbb⟩ : ∃ bb, nearB (costF r a b c p) q = bb := ⟨_, rfl⟩
          have HI1 : Hid (bb = true ↔ ∃ j, j < (pickL (nearB (costF r a b c p)) n).length ∧ atL (pickL (nearB (costF r a b c p)) n) j = (q : Int)) := by
            rw [atL_mem, pickL_mem, hbb]
            exact ⟨fun h => ⟨hq, h⟩, fun h => h.2⟩
          have HI2 : Hid (bb = true ↔ ∃ j, j < (pickL (nearB (costF r a b c q)) n).length ∧ atL (pickL (nearB (costF r a b c q)) n) j = (p : Int)) := by
            rw [atL_mem, pickL_mem, ← hbb]
            have e : nearB (costF r a b c q) p = nearB (costF r a b c p) q := by unfold nearB; rw [costF_sym HR.out p q]
            rw [e]
            exact ⟨fun h => ⟨hp, h⟩, fun h => h.2⟩
          have hlen6 := pickL_len (nearB (costF r a b c p)) n
          have hlen7 := pickL_len (nearB (costF r a b c q)) n
          generalize (pickL (nearB (costF r a b c p)) n).length = l6 at *
          generalize (pickL (nearB (costF r a b c q)) n).length = l7 at *
          generalize atL (pickL (nearB (costF r a b c p)) n) = f6 at *
          generalize atL (pickL (nearB (costF r a b c q)) n) = f7 at *
          clear hbb
          go_wp2_with fail
          go_quiet ((first | (go_at_call_of 42 (Value.slice P6 l6 c6); exact Calls.quiet_of_same (in_walk P6 l6 c6 f6 q _ (HP67.out.drewN _) (by omega) bb HI1.out)) | (go_at_call_of 42 (Value.slice P7 l7 c7); exact Calls.quiet_of_same (in_walk P7 l7 c7 f7 p _ (HP7.out.drewN _) (by omega) bb HI2.out))))
          go_wp2_with fail
          have HM8 := Lib.hid (HM7.out.drewN nq)
          have HB8 := Lib.hid (below_drewN HB7.out nq)
          clear hs0 hs1 ht0 ht1 HM7 HB7 HP67 HP7 HI1 HI2 hlen6 hlen7
          by_cases hex : ∃ j, j < r ∧ Mt a b j u v
          · obtain ⟨j, hj, hmt⟩ := hex
            have HMT := Lib.hid hmt
            clear hmt
            have hcall := cut_ok n u v A r cp j a b c (w7.drewN nq) (HL.out.keep HB8.out) hm HG.out hj HMT.out
            refine hcall.mono ?_
            clear hcall
            rintro e w9 ⟨g9, c9, rfl, -, hrow9, hb9⟩
            have HL9 := Lib.hid hrow9.lnk
            have HM9 := Lib.hid (HM8.out.keep hb9)
            have HB9 := Lib.hid (keep HB8.out hb9)
            have HGD : Hid (GoodG n (r - 1) (dropF j a) (dropF j b) (dropF j c)) := ⟨HG.out.1, HG.out.2.1, by simpa using right_drop HR.out hj⟩
            clear hrow9 hb9 HB8 HM8
            go_wp2_with fail
            have hcall := costs_ok n n rfl (some ⟨g9, 0, none⟩) (r - 1) c9 (dropF j a) (dropF j b) (dropF j c) w9 HL9.out (Nat.le_trans (Nat.sub_le _ _) hm) HGD.out
            refine hcall.mono ?_
            clear hcall
            rintro e w10 ⟨g10, q10, B10, C10, rfl, -, hat10, hb10⟩
            have HM10 := Lib.hid (hat10.mat' hn1)
            have HM11 := Lib.hid (HM9.out.keep hb10)
            have HB10 := Lib.hid (keep HB9.out hb10)
            clear hat10 hb10 HB9 HM9 HL9
            obtain ⟨Sp, sc, hs0, hs1⟩ := Mat.at_lit hn1 HM11.out hp hq
            obtain ⟨Tp, tc, ht0, ht1⟩ := Mat.at_lit hn1 HM10.out hp hq
            rw [cut_pair HR.out hj HMT.out p q] at ht1
            clear HMT
            by_cases e1 : (p : Int) = u ∧ (q : Int) = v
            · rw [if_pos (.inl e1)] at ht1
              obtain ⟨rfl, rfl⟩ := e1
              go_wp2_with fail
              go_ret
              exact ⟨rfl, HB10.out⟩
            · by_cases e2 : (p : Int) = v ∧ (q : Int) = u
              · rw [if_pos (.inr e2)] at ht1
                obtain ⟨rfl, rfl⟩ := e2
                by_cases e3 : (p : Int) = (q : Int)
                · exact absurd ⟨e3, e3.symm⟩ e1
                · have hd4 : ((p : Int) == (q : Int)) = false := beq_false_of_ne e3
                  have hd5 : (p == q) = false := beq_false_of_ne fun e => e3 (by rw [e])
                  clear e1 e3
                  go_wp2_with fail
                  go_ret
                  exact ⟨rfl, HB10.out⟩
              · rw [if_neg (fun h => h.elim e1 e2)] at ht1
                by_cases e3 : (p : Int) = u
                · have e4 : (q : Int) ≠ v := fun e => e1 ⟨e3, e⟩
                  have hd4 : ((q : Int) == v) = false := beq_false_of_ne e4
                  subst e3
                  by_cases e5 : (p : Int) = v
                  · have e6 : (q : Int) ≠ p := fun e => e2 ⟨e5, e⟩
                    subst e5
                    have hd6 : (q == p) = false := beq_false_of_ne fun e => e6 (by rw [e])
                    clear e1 e2 e4 e6
                    go_wp2_with fail
                    go_ret
                    exact ⟨rfl, HB10.out⟩
                  · have hd5 : ((p : Int) == v) = false := beq_false_of_ne e5
                    clear e1 e2 e4 e5
                    go_wp2_with fail
                    go_ret
                    exact ⟨rfl, HB10.out⟩
                · have hd3 : ((p : Int) == u) = false := beq_false_of_ne e3
                  by_cases e5 : (p : Int) = v
                  · have e6 : (q : Int) ≠ u := fun e => e2 ⟨e5, e⟩
                    have hd6 : ((q : Int) == u) = false := beq_false_of_ne e6
                    subst e5
                    clear e1 e2 e3 e6
                    go_wp2_with fail
                    go_ret
                    exact ⟨rfl, HB10.out⟩
                  · have hd5 : ((p : Int) == v) = false := beq_false_of_ne e5
                    clear e1 e2 e3 e5
                    go_wp2_with fail
                    go_ret
                    exact ⟨rfl, HB10.out⟩
          · have HNO : Hid (∀ j, j < r → ¬ Mt a b j u v) := fun j hj h => hex ⟨j, hj, h⟩
            clear hex
            have hcall := cut_none n u v A r cp a b c (w7.drewN nq) (HL.out.keep HB8.out) hm HG.out HNO.out
            refine hcall.mono ?_
            clear hcall
            rintro e w9 ⟨rfl, hb9⟩
            have HB9 := Lib.hid (keep HB8.out hb9)
            clear hb9 HB8
            go_wp2_with fail
            go_ret
            exact ⟨rfl, HB9.out⟩
  · have HFR := Lib.hid hf
    have HK := Lib.hid hk
    clear hf hk
    refine (graphCheck_bad x A m cp a b c w1 (HL.out.keep HB1.out) hm k HFR.out).mono ?_
    rintro e w2 ⟨rfl, hb2⟩
    go_wp2_with fail
    go_ret
    exact ⟨rfl, keep HB1.out hb2⟩

end Go.Proofs.Ytjijpcjbigdgjaa

/- The walk of a line's Cut. -/
import Derived.Test.YtbepfmcaolmhgaaDoorLineOps
import Derived.Test.YtbepfmcaolmhgaaDoorLineIt
import Derived.Deep.RegionHeld3
import Derived.Test.YtbepfmcaolmhgaaDoorTail
namespace Go.Proofs.YtbepfmcaolmhgaaDoor
open Go.RowKit
set_option linter.unusedVariables false

/-- Node x forgets whatever it has by y. -/
def rowCut (x y : Nat) (S : Nat → Nat → Int × Int) (i t : Nat) : Int × Int := if i = x ∧ (S i t).2 = (y : Int) then (16, -1) else S i t
/-- Of the first q nodes. -/
def partCut (x y q : Nat) (S : Nat → Nat → Int × Int) (i t : Nat) : Int × Int := if i = x ∧ t < q ∧ (S i t).2 = (y : Int) then (16, -1) else S i t
/-- Both ends of the link. -/
def bothCut (u v : Nat) (S : Nat → Nat → Int × Int) : Nat → Nat → Int × Int := rowCut v u (rowCut u v S)
def midCut (u v : Nat) (S : Nat → Nat → Int × Int) (r : Nat) : Nat → Nat → Int × Int := if r = 0 then S else if r = 1 then rowCut u v S else bothCut u v S

theorem partCut_start (x y : Nat) (S : Nat → Nat → Int × Int) (i t : Nat) : S i t = partCut x y 0 S i t := by
  unfold partCut
  rw [if_neg (by omega)]
theorem partCut_end (x y n : Nat) (S : Nat → Nat → Int × Int) (i t : Nat) (ht : t < n) : partCut x y n S i t = rowCut x y S i t := by
  unfold partCut rowCut
  by_cases h : i = x ∧ (S i t).2 = (y : Int)
  · rw [if_pos ⟨h.1, ht, h.2⟩, if_pos h]
  · rw [if_neg fun h' => h ⟨h'.1, h'.2.2⟩, if_neg h]
theorem partCut_yes (x y q : Nat) (S : Nat → Nat → Int × Int) (h : (S x q).2 = (y : Int)) (i t : Nat) : (if i = x ∧ t = q then ((16 : Int), (-1 : Int)) else partCut x y q S i t) = partCut x y (q + 1) S i t := by
  unfold partCut
  by_cases e : i = x ∧ t = q
  · obtain ⟨rfl, rfl⟩ := e
    rw [if_pos ⟨rfl, rfl⟩, if_pos ⟨rfl, by omega, h⟩]
  · rw [if_neg e]
    by_cases h' : i = x ∧ t < q ∧ (S i t).2 = (y : Int)
    · rw [if_pos h', if_pos ⟨h'.1, by omega, h'.2.2⟩]
    · rw [if_neg h', if_neg fun h2 => h' ⟨h2.1, by
        have := h2.2.1
        rcases Nat.lt_or_ge t q with h3 | h3
        · exact h3
        · exact absurd ⟨h2.1, by omega⟩ e, h2.2.2⟩]
theorem partCut_no (x y q : Nat) (S : Nat → Nat → Int × Int) (h : (S x q).2 ≠ (y : Int)) (i t : Nat) : partCut x y q S i t = partCut x y (q + 1) S i t := by
  unfold partCut
  by_cases h' : i = x ∧ t < q ∧ (S i t).2 = (y : Int)
  · rw [if_pos h', if_pos ⟨h'.1, by omega, h'.2.2⟩]
  · rw [if_neg h', if_neg fun h2 => h' ⟨h2.1, by
      have := h2.2.1
      rcases Nat.lt_or_ge t q with h3 | h3
      · exact h3
      · obtain rfl : t = q := by omega
        exact absurd h2.2.2 (by rw [h2.1]; exact h), h2.2.2⟩]
theorem partCut_at (x y q : Nat) (S : Nat → Nat → Int × Int) : partCut x y q S x q = S x q := by
  unfold partCut
  rw [if_neg (by omega)]

theorem cut_ranged {n u v : Nat} {S : Nat → Nat → Int × Int} (h : ∀ k t, k < n → t < n → 0 ≤ (S k t).1 ∧ (S k t).1 ≤ 16) : ∀ k t, k < n → t < n → 0 ≤ (bothCut u v S k t).1 ∧ (bothCut u v S k t).1 ≤ 16 := by
  have h1 : ∀ (x y : Nat) (T : Nat → Nat → Int × Int), (∀ k t, k < n → t < n → 0 ≤ (T k t).1 ∧ (T k t).1 ≤ 16) → ∀ k t, k < n → t < n → 0 ≤ (rowCut x y T k t).1 ∧ (rowCut x y T k t).1 ≤ 16 := fun x y T hT k t hk ht => by
    unfold rowCut
    split
    · decide
    · exact hT k t hk ht
  exact h1 _ _ _ (h1 _ _ _ h)

section
variable {w w' : World} {lo s : Nat} {po : Bool} {lA : Option Addr} {lc gr gc : Nat} {B C : Nat → Nat} {n m : Nat} {a b c : Nat → Int} {F G F' G' : Nat → Nat → Int}
theorem LineW.drewN (h : LineW w lo s po lA lc gr gc B C n m a b c F G) (k : Nat) : LineW (w.drewN k) lo s po lA lc gr gc B C n m a b c F G := ⟨h.blk, h.lks, h.tht.drewN k, h.lo⟩
theorem LineW.congr (h : LineW w lo s po lA lc gr gc B C n m a b c F G) (e : ∀ r t, r < n → t < n → F r t = F' r t ∧ G r t = G' r t) : LineW w lo s po lA lc gr gc B C n m a b c F' G' :=
  ⟨h.blk, h.lks, h.tht.congr e, h.lo⟩
theorem LineW.set (h : LineW w lo s po lA lc gr gc B C n m a b c F G) {r : Nat} (hr : r < n) (t : Nat) (x y : Int) :
    LineW ((w.setCell ⟨B r, t * 2, none⟩ (.int .i64 x)).setCell ⟨B r, t * 2 + 1, none⟩ (.int .i64 y)) lo s po lA lc gr gc B C n m a b c (fun p q => if p = r ∧ q = t then x else F p q) (fun p q => if p = r ∧ q = t then y else G p q) := by
  have hrow := (h.tht.row r hr).2
  have hs : s ≠ B r := fun e => h.blk.ne_row hrow (by decide) e.symm
  refine ⟨(h.blk.far (p := ⟨B r, t * 2, none⟩) hs _).far (p := ⟨B r, t * 2 + 1, none⟩) hs _, ?_, h.tht.set hr t x y, h.lo⟩
  rcases h.lks with e | ⟨gl, e, h2, hl⟩
  · exact .inl e
  · have hg : gl ≠ B r := hl.ne_type hrow (by decide)
    exact .inr ⟨gl, e, h2, (hl.setOther (a := ⟨B r, t * 2, none⟩) hg _).setOther (a := ⟨B r, t * 2 + 1, none⟩) hg _⟩
/-- Other links. -/
theorem LineW.links (h : LineW w lo s po lA lc gr gc B C n m a b c F G) {g q m' : Nat} {a' b' c' : Nat → Int} (hlo : lo ≤ g) (hr : RowP w g 32 (m' * 3) (linkC a' b' c')) :
    LineW (w.setCell ⟨s, 0, none⟩ (.slice (some ⟨g, 0, none⟩) m' q)) lo s po (some ⟨g, 0, none⟩) q gr gc B C n m' a' b' c' F G := by
  refine ⟨by simpa using h.blk.set_ 0 (.slice (some ⟨g, 0, none⟩) m' q), .inr ⟨g, rfl, hlo, hr.setOther (h.blk.ne_row hr (by decide)) _⟩, ?_, h.lo⟩
  have ht := h.tht
  refine ⟨?_, fun r hr => ⟨(ht.row r hr).1, (ht.row r hr).2.setOther (h.blk.ne_row (ht.row r hr).2 (by decide)) _⟩, ht.inj⟩
  have hne : (Value.slice (some ⟨gr, 0, none⟩) n gc).ownBlock ≠ some s := by
    intro e
    have e' : gr = s := by simpa [Value.ownBlock] using e
    subst e'
    rcases ht.own.2 with ⟨hv, _⟩ | ⟨g', cap, cur, hv, _, hg', _⟩
    · cases hv
    · have : gr = g' := by
        simp only [Value.slice.injEq, Option.some.injEq, Addr.mk.injEq] at hv
        exact hv.1.1
      subst this
      have hb := h.blk
      unfold Blk at hb
      rw [hg'] at hb
      simp at hb
  exact ht.own.kept (row := some s) ⟨rfl, rfl, rfl, by simp [World.setCell], fun k hk hne => Below.heap_setCell _ _ _ _ (fun e => hne (by rw [e]))⟩ (.inr hne)
end

theorem NobT.low {w w' : World} {lo : Nat} (h : NobT w) (hb : Below lo w w') (hl : 0 < lo) : NobT w' := ⟨(hb.cell (p := ⟨0, 0, none⟩) hl).trans h.1, (hb.cell (p := ⟨0, 1, none⟩) hl).trans h.2⟩

set_option maxRecDepth 100000 in
set_option maxHeartbeats 8000000 in
theorem lineCut_ok (s n m j u v : Nat) (lo : Nat) (po : Bool) (a b c : Nat → Int) (S : Nat → Nat → Int × Int) (w : World) (hN : NobT w) (h : LineH w lo s po n m a b c (fun i t => (S i t).1) (fun i t => (S i t).2)) (h1 : 1 ≤ n) (h8 : n ≤ 8) (hm : m ≤ 9223372036854775807) (hr : Right n m a b c)
    (hj : j < m) (hu : u < n) (hv : v < n) (huv : u ≠ v) (hmt : Mt a b j u v) (hlo : lo ≤ w.heap.size) (hnl : 0 < lo) :
    Calls Tryd.prog 11 #[.pointer (some ⟨s, 0, none⟩), .int .i64 u, .int .i64 v] w fun e w' => e = .returned .nilIface ∧
      LineH w' lo s po n (m - 1) (dropF j a) (dropF j b) (dropF j c) (fun i t => (bothCut u v S i t).1) (fun i t => (bothCut u v S i t).2) ∧ Fr lo w w' := by
  obtain ⟨lA, lc, gr, gc, B, C, h⟩ := h
  have hg : GoodG n m a b c := ⟨by omega, by omega, by simpa using hr⟩
  have c0 := h.blk.cell 0
  have c2 := h.blk.cell 2
  simp at c0 c2
  have hls := h.blk.lt
  have h8' : (n : Int) ≤ 8 := by omega
  have hu' : (u : Int) < n := by omega
  have hv' : (v : Int) < n := by omega
  have HW := Lib.hid h
  have HN := Lib.hid hN
  have HG := Lib.hid hg
  have HMT := Lib.hid hmt
  have HC0 : Hid (w.drew.cell? ⟨s, 2, none⟩ = some (.slice (some ⟨gr, 0, none⟩) n gc) ∧ w.drew.cell? ⟨s, 0, none⟩ = some (.slice lA m lc)) := ⟨c2, c0⟩
  have HKP : Hid (∀ w4, Below w.heap.size w.drew w4 → w4.cell? ⟨s, 2, none⟩ = some (.slice (some ⟨gr, 0, none⟩) n gc) ∧ w4.cell? ⟨s, 0, none⟩ = some (.slice lA m lc)) := fun w4 hb => ⟨(hb.cell (p := ⟨s, 2, none⟩) hls).trans HC0.out.1, (hb.cell (p := ⟨s, 0, none⟩) hls).trans HC0.out.2⟩
  clear h hg hr hN hmt
  go_enter Tryd.func11, Tryd.ntmps11
  go_wp2_with fail
  go_region_held3 (fun w' => w'.cell? ⟨s, 2, none⟩ = some (.slice (some ⟨gr, 0, none⟩) n gc) ∧ w'.cell? ⟨s, 0, none⟩ = some (.slice lA m lc))
    (first | exact HC0.out | exact HKP.out _ hb4 | go_keep)
    (first | (go_at_call 18; refine (cut_ok n u v lA m lc j a b c _ (HW.out.lks.lnk.keep ((Below.refl w.heap.size w).drew)) hm HG.out hj HMT.out).mono ?_; rintro e w4 ⟨g4, cap4, rfl, hg4, hrow4, hb4⟩))
  all_goals
    have hb24 : Below w.heap.size w w4 := ((Below.refl w.heap.size w).drew).trans hb4
    have hw4 := HW.out.below hb24
    have hlog : lo ≤ g4 := Nat.le_trans hlo hg4
    have HW5 := Lib.hid (hw4.links (q := cap4) hlog hrow4)
    have HB5 : Hid (Fr lo w (w4.setCell ⟨s, 0, none⟩ (.slice (some ⟨g4, 0, none⟩) (m - 1) cap4))) := (Fr.of_below hb24 hlo).setS hw4.blk hw4.lo _ _
    have HN5 := Lib.hid (HN.out)
    have hc4 := hw4.blk.cell 0
    have hf4 := hw4.blk.frozen 0
    simp at hc4
    clear hb24 hb4 hrow4 hw4 HC0 HKP c0 c2
    have HSW : Hid (w4.heap.size = (w4.setCell ⟨s, 0, none⟩ (.slice (some ⟨g4, 0, none⟩) (m - 1) cap4)).heap.size) := by
      show w4.heap.size = _
      simp
    have HLO : Hid (lo ≤ w.heap.size) := hlo
    have HA5 := Lib.hid (Blk.new (w4.setCell ⟨s, 0, none⟩ (.slice (some ⟨g4, 0, none⟩) (m - 1) cap4)) 70 #[.int .i64 u, .int .i64 v, .int .i64 v, .int .i64 u])
    have HW6 := Lib.hid (HW5.out.below ((Below.refl _ _).alloc (Nat.le_refl _) (.cells #[.int .i64 u, .int .i64 v, .int .i64 v, .int .i64 u] 70)))
    have HB6 := Lib.hid (HB5.out.alloc (Nat.le_trans hlo HB5.out.size) (.cells #[.int .i64 u, .int .i64 v, .int .i64 v, .int .i64 u] 70))
    rw [← HSW.out] at HA5
    obtain ⟨ba, hba⟩ : ∃ ba, w4.heap.size = ba := ⟨_, rfl⟩
    rw [hba] at HA5
    clear HSW HW5 HB5
    go_wp2_with fail
    clear hba hc4 hf4
    go_loopw [43] (fun q wi => ∃ r : Nat, r ≤ 2 ∧ q = .int .i64 r ∧ LineW wi lo s po (some ⟨g4, 0, none⟩) cap4 gr gc B C n (m - 1) (dropF j a) (dropF j b) (dropF j c) (fun i t => (midCut u v S r i t).1) (fun i t => (midCut u v S r i t).2) ∧ Blk wi ba 70 #[.int .i64 u, .int .i64 v, .int .i64 v, .int .i64 u] ∧ Fr lo w wi) (fun q _ => 2 - (intOf q).toNat)
    case atStart => exact ⟨0, by omega, rfl, HW6.out, HA5.out, HB6.out⟩
    case round =>
      obtain ⟨r, hr, rfl, hW, hA, hB⟩ := hrel
      have HWR := Lib.hid hW
      have HAR := Lib.hid hA
      have HBR := Lib.hid hB
      have HSZ := Lib.hid hB.size
      clear hW hA hB HW6 HA5 HB6
      have cx0 := HAR.out.cell 0
      have cx1 := HAR.out.cell 1
      have cx2 := HAR.out.cell 2
      have cx3 := HAR.out.cell 3
      simp only [List.getElem?_toArray, List.getElem?_cons_zero, List.getElem?_cons_succ] at cx0 cx1 cx2 cx3
      have h3 : r = 0 ∨ r = 1 ∨ r = 2 := by omega
      rcases h3 with rfl | rfl | rfl
      · have cw2 := HWR.out.blk.cell 2
        have cgx := (HWR.out.outer h1).cell hu
        simp at cw2
        have hwa := HWR.out.below ((Below.refl wr.heap.size wr).alloc (Nat.le_refl _) (.cells #[.int .i64 u, .int .i64 v] 70))
        have HWA := Lib.hid (hwa.congr (F' := fun i t => (partCut u v 0 (midCut u v S 0) i t).1) (G' := fun i t => (partCut u v 0 (midCut u v S 0) i t).2) fun i t _ _ => by rw [← partCut_start]; exact ⟨rfl, rfl⟩)
        have HPA := Lib.hid (Blk.new wr 70 #[.int .i64 u, .int .i64 v])
        have HAA := Lib.hid (HAR.out.alloc (.cells #[.int .i64 u, .int .i64 v] 70))
        have HBA := Lib.hid (HBR.out.alloc (Nat.le_trans HLO.out HSZ.out) (.cells #[.int .i64 u, .int .i64 v] 70))
        have hwa2 := hwa.blk.cell 2
        have hwax := (hwa.outer h1).cell hu
        simp at hwa2
        obtain ⟨bp, hbp⟩ : ∃ bp, wr.heap.size = bp := ⟨_, rfl⟩
        rw [hbp] at HPA
        have hp0 := HPA.out.cell 0
        have hp1 := HPA.out.cell 1
        simp only [List.getElem?_toArray, List.getElem?_cons_zero, List.getElem?_cons_succ] at hp0 hp1
        clear hwa
        go_wp2_with fail
        clear hbp
        go_quiet (fail)
        go_wp2_with fail
        clear cx0 cx1 cx2 cx3 cw2 cgx hwa2 hwax hp0 hp1
        have HWB := Lib.hid (HWA.out.drewN nq)
        have HPB := Lib.hid (HPA.out.drewN nq)
        have HAB := Lib.hid (HAA.out.drewN nq)
        have HBB := Lib.hid (HBA.out.drewN nq)
        clear HWA HPA HAA HBA HWR HAR HBR
        go_loopw [56] (fun q wi => ∃ t : Nat, t ≤ n ∧ q = .int .i64 t ∧ LineW wi lo s po (some ⟨g4, 0, none⟩) cap4 gr gc B C n (m - 1) (dropF j a) (dropF j b) (dropF j c) (fun i t' => (partCut u v t (midCut u v S 0) i t').1) (fun i t' => (partCut u v t (midCut u v S 0) i t').2) ∧ Blk wi bp 70 #[.int .i64 u, .int .i64 v] ∧ Blk wi ba 70 #[.int .i64 u, .int .i64 v, .int .i64 v, .int .i64 u] ∧ Fr lo w wi) (fun q _ => n - (intOf q).toNat)
        case atStart => exact ⟨0, by omega, rfl, HWB.out, HPB.out, HAB.out, HBB.out⟩
        case round =>
          obtain ⟨t, ht, rfl, hW, hP, hA, hB⟩ := hrel
          have HW2 := Lib.hid hW
          have HP2 := Lib.hid hP
          have HA2 := Lib.hid hA
          have HB2 := Lib.hid hB
          clear hW hP hA hB HWB HPB HAB HBB
          by_cases htn : t < n
          · have htn' : (t : Int) < n := by omega
            have hrow := (HW2.out.tht.row u hu).2
            have cf := hrow.cell (i := t * 2) (by omega)
            have cn := hrow.cell (i := t * 2 + 1) (by omega)
            rw [placeC0, partCut_at] at cf
            rw [placeC1, partCut_at] at cn
            obtain ⟨ff, hff⟩ : ∃ ff, (midCut u v S 0 u t).1 = ff := ⟨_, rfl⟩
            obtain ⟨gg, hgg⟩ : ∃ gg, (midCut u v S 0 u t).2 = gg := ⟨_, rfl⟩
            rw [hff] at cf
            rw [hgg] at cn
            have HGG := Lib.hid hgg
            have hba := (Below.refl wr.heap.size wr).alloc (Nat.le_refl _) (.cells #[.int .i64 ff, .int .i64 gg] 69)
            have HW3 := Lib.hid (HW2.out.below hba)
            have HP3 := Lib.hid (HP2.out.below hba HP2.out.lt)
            have HA3 := Lib.hid (HA2.out.below hba HA2.out.lt)
            have hsz := HB2.out.size
            have HB3 := Lib.hid (HB2.out.alloc (Nat.le_trans HLO.out hsz) (.cells #[.int .i64 ff, .int .i64 gg] 69))
            have cp1 := HP3.out.cell 1
            have cp0 := HP3.out.cell 0
            simp only [List.getElem?_toArray, List.getElem?_cons_zero, List.getElem?_cons_succ] at cp0 cp1
            have cw2 := HW3.out.blk.cell 2
            simp at cw2
            have cgx := (HW3.out.outer h1).cell hu
            clear hff hgg hrow hba HW2 HP2 HA2 HB2 hsz
            by_cases hy : gg = (v : Int)
            · obtain ⟨n0, n1⟩ := HN5.out.low HB3.out.bel hnl
              have hrow3 := (HW3.out.tht.row u hu).2
              have c30 := hrow3.cell (i := t * 2) (by omega)
              have c31 := hrow3.cell (i := t * 2 + 1) (by omega)
              rw [placeC0] at c30
              rw [placeC1] at c31
              have f30 := hrow3.frozen (t * 2)
              have f31 := hrow3.frozen (t * 2 + 1)
              have hbs := HW3.out.set hu t 16 (-1)
              have HW4 := Lib.hid (hbs.congr (F' := fun i t' => (partCut u v (t + 1) (midCut u v S 0) i t').1) (G' := fun i t' => (partCut u v (t + 1) (midCut u v S 0) i t').2) fun p q _ _ => by
                rw [← partCut_yes u v t (midCut u v S 0) (by rw [HGG.out]; exact hy)]
                by_cases e : p = u ∧ q = t
                · rw [if_pos e, if_pos e, if_pos e]; exact ⟨rfl, rfl⟩
                · rw [if_neg e, if_neg e, if_neg e]; exact ⟨rfl, rfl⟩)
              have hpb : bp ≠ B u := fun e => HP3.out.ne_row hrow3 (by decide) e.symm
              have hab : ba ≠ B u := fun e => HA3.out.ne_row hrow3 (by decide) e.symm
              have HP4 := Lib.hid ((HP3.out.far (p := ⟨B u, t * 2, none⟩) hpb (.int .i64 16)).far (p := ⟨B u, t * 2 + 1, none⟩) hpb (.int .i64 (-1)))
              have HA4 := Lib.hid ((HA3.out.far (p := ⟨B u, t * 2, none⟩) hab (.int .i64 16)).far (p := ⟨B u, t * 2 + 1, none⟩) hab (.int .i64 (-1)))
              have hlb := (HW3.out.tht.row u hu).1
              have HB4 := Lib.hid ((HB3.out.setR hrow3 hlb (t * 2) (.int .i64 16)).setR (hrow3.set (t * 2) (.int .i64 16)) hlb (t * 2 + 1) (.int .i64 (-1)))
              subst hy
              clear hrow3 hbs hpb hab hlb HW3 HP3 HA3 HB3 HGG
              go_wp2_with fail
              refine wp_region_quiet_tail 11 (by kernel_rfl) (by kernel_rfl) ?_
              simp only [List.take_succ_cons, List.take_zero, List.drop_succ_cons, List.drop_zero]
              repeat (go_big_quiet_step (fail))
              refine wpQuiet_nil ?_
              go_wp2_with fail
              go_roundw
              case rel => exact ⟨t + 1, by omega, by go_num, HW4.out.drewN 1, HP4.out.drewN 1, HA4.out.drewN 1, HB4.out.drewN 1⟩
              case measure => simp [intOf]; omega
            · have hd : (gg == (v : Int)) = false := beq_false_of_ne hy
              have HW4 := Lib.hid (HW3.out.congr (F' := fun i t' => (partCut u v (t + 1) (midCut u v S 0) i t').1) (G' := fun i t' => (partCut u v (t + 1) (midCut u v S 0) i t').2) fun p q _ _ => by
                rw [← partCut_no u v t (midCut u v S 0) (by rw [HGG.out]; exact hy)]
                exact ⟨rfl, rfl⟩)
              clear hy HW3 HGG
              go_wp2_with fail
              go_roundw
              case rel => exact ⟨t + 1, by omega, by go_num, HW4.out, HP3.out, HA3.out, HB3.out⟩
              case measure => simp [intOf]; omega
          · have et : t = n := by omega
            subst et
            have HW3 := Lib.hid (HW2.out.congr (F' := fun i t' => (midCut u v S 1 i t').1) (G' := fun i t' => (midCut u v S 1 i t').2) fun p q _ hq => by
              rw [partCut_end _ _ _ _ _ _ hq]
              exact ⟨rfl, rfl⟩)
            clear HW2 HP2
            go_wp2_with fail
            go_roundw
            case rel => exact ⟨1, by omega, rfl, HW3.out, HA2.out, HB2.out⟩
            case measure => simp [intOf]
      · have cw2 := HWR.out.blk.cell 2
        have cgx := (HWR.out.outer h1).cell hv
        simp at cw2
        have hwa := HWR.out.below ((Below.refl wr.heap.size wr).alloc (Nat.le_refl _) (.cells #[.int .i64 v, .int .i64 u] 70))
        have HWA := Lib.hid (hwa.congr (F' := fun i t => (partCut v u 0 (midCut u v S 1) i t).1) (G' := fun i t => (partCut v u 0 (midCut u v S 1) i t).2) fun i t _ _ => by rw [← partCut_start]; exact ⟨rfl, rfl⟩)
        have HPA := Lib.hid (Blk.new wr 70 #[.int .i64 v, .int .i64 u])
        have HAA := Lib.hid (HAR.out.alloc (.cells #[.int .i64 v, .int .i64 u] 70))
        have HBA := Lib.hid (HBR.out.alloc (Nat.le_trans HLO.out HSZ.out) (.cells #[.int .i64 v, .int .i64 u] 70))
        have hwa2 := hwa.blk.cell 2
        have hwax := (hwa.outer h1).cell hv
        simp at hwa2
        obtain ⟨bp, hbp⟩ : ∃ bp, wr.heap.size = bp := ⟨_, rfl⟩
        rw [hbp] at HPA
        have hp0 := HPA.out.cell 0
        have hp1 := HPA.out.cell 1
        simp only [List.getElem?_toArray, List.getElem?_cons_zero, List.getElem?_cons_succ] at hp0 hp1
        clear hwa
        go_wp2_with fail
        clear hbp
        go_quiet (fail)
        go_wp2_with fail
        clear cx0 cx1 cx2 cx3 cw2 cgx hwa2 hwax hp0 hp1
        have HWB := Lib.hid (HWA.out.drewN nq)
        have HPB := Lib.hid (HPA.out.drewN nq)
        have HAB := Lib.hid (HAA.out.drewN nq)
        have HBB := Lib.hid (HBA.out.drewN nq)
        clear HWA HPA HAA HBA HWR HAR HBR
        go_loopw [56] (fun q wi => ∃ t : Nat, t ≤ n ∧ q = .int .i64 t ∧ LineW wi lo s po (some ⟨g4, 0, none⟩) cap4 gr gc B C n (m - 1) (dropF j a) (dropF j b) (dropF j c) (fun i t' => (partCut v u t (midCut u v S 1) i t').1) (fun i t' => (partCut v u t (midCut u v S 1) i t').2) ∧ Blk wi bp 70 #[.int .i64 v, .int .i64 u] ∧ Blk wi ba 70 #[.int .i64 u, .int .i64 v, .int .i64 v, .int .i64 u] ∧ Fr lo w wi) (fun q _ => n - (intOf q).toNat)
        case atStart => exact ⟨0, by omega, rfl, HWB.out, HPB.out, HAB.out, HBB.out⟩
        case round =>
          obtain ⟨t, ht, rfl, hW, hP, hA, hB⟩ := hrel
          have HW2 := Lib.hid hW
          have HP2 := Lib.hid hP
          have HA2 := Lib.hid hA
          have HB2 := Lib.hid hB
          clear hW hP hA hB HWB HPB HAB HBB
          by_cases htn : t < n
          · have htn' : (t : Int) < n := by omega
            have hrow := (HW2.out.tht.row v hv).2
            have cf := hrow.cell (i := t * 2) (by omega)
            have cn := hrow.cell (i := t * 2 + 1) (by omega)
            rw [placeC0, partCut_at] at cf
            rw [placeC1, partCut_at] at cn
            obtain ⟨ff, hff⟩ : ∃ ff, (midCut u v S 1 v t).1 = ff := ⟨_, rfl⟩
            obtain ⟨gg, hgg⟩ : ∃ gg, (midCut u v S 1 v t).2 = gg := ⟨_, rfl⟩
            rw [hff] at cf
            rw [hgg] at cn
            have HGG := Lib.hid hgg
            have hba := (Below.refl wr.heap.size wr).alloc (Nat.le_refl _) (.cells #[.int .i64 ff, .int .i64 gg] 69)
            have HW3 := Lib.hid (HW2.out.below hba)
            have HP3 := Lib.hid (HP2.out.below hba HP2.out.lt)
            have HA3 := Lib.hid (HA2.out.below hba HA2.out.lt)
            have hsz := HB2.out.size
            have HB3 := Lib.hid (HB2.out.alloc (Nat.le_trans HLO.out hsz) (.cells #[.int .i64 ff, .int .i64 gg] 69))
            have cp1 := HP3.out.cell 1
            have cp0 := HP3.out.cell 0
            simp only [List.getElem?_toArray, List.getElem?_cons_zero, List.getElem?_cons_succ] at cp0 cp1
            have cw2 := HW3.out.blk.cell 2
            simp at cw2
            have cgx := (HW3.out.outer h1).cell hv
            clear hff hgg hrow hba HW2 HP2 HA2 HB2 hsz
            by_cases hy : gg = (u : Int)
            · obtain ⟨n0, n1⟩ := HN5.out.low HB3.out.bel hnl
              have hrow3 := (HW3.out.tht.row v hv).2
              have c30 := hrow3.cell (i := t * 2) (by omega)
              have c31 := hrow3.cell (i := t * 2 + 1) (by omega)
              rw [placeC0] at c30
              rw [placeC1] at c31
              have f30 := hrow3.frozen (t * 2)
              have f31 := hrow3.frozen (t * 2 + 1)
              have hbs := HW3.out.set hv t 16 (-1)
              have HW4 := Lib.hid (hbs.congr (F' := fun i t' => (partCut v u (t + 1) (midCut u v S 1) i t').1) (G' := fun i t' => (partCut v u (t + 1) (midCut u v S 1) i t').2) fun p q _ _ => by
                rw [← partCut_yes v u t (midCut u v S 1) (by rw [HGG.out]; exact hy)]
                by_cases e : p = v ∧ q = t
                · rw [if_pos e, if_pos e, if_pos e]; exact ⟨rfl, rfl⟩
                · rw [if_neg e, if_neg e, if_neg e]; exact ⟨rfl, rfl⟩)
              have hpb : bp ≠ B v := fun e => HP3.out.ne_row hrow3 (by decide) e.symm
              have hab : ba ≠ B v := fun e => HA3.out.ne_row hrow3 (by decide) e.symm
              have HP4 := Lib.hid ((HP3.out.far (p := ⟨B v, t * 2, none⟩) hpb (.int .i64 16)).far (p := ⟨B v, t * 2 + 1, none⟩) hpb (.int .i64 (-1)))
              have HA4 := Lib.hid ((HA3.out.far (p := ⟨B v, t * 2, none⟩) hab (.int .i64 16)).far (p := ⟨B v, t * 2 + 1, none⟩) hab (.int .i64 (-1)))
              have hlb := (HW3.out.tht.row v hv).1
              have HB4 := Lib.hid ((HB3.out.setR hrow3 hlb (t * 2) (.int .i64 16)).setR (hrow3.set (t * 2) (.int .i64 16)) hlb (t * 2 + 1) (.int .i64 (-1)))
              subst hy
              clear hrow3 hbs hpb hab hlb HW3 HP3 HA3 HB3 HGG
              go_wp2_with fail
              refine wp_region_quiet_tail 11 (by kernel_rfl) (by kernel_rfl) ?_
              simp only [List.take_succ_cons, List.take_zero, List.drop_succ_cons, List.drop_zero]
              repeat (go_big_quiet_step (fail))
              refine wpQuiet_nil ?_
              go_wp2_with fail
              go_roundw
              case rel => exact ⟨t + 1, by omega, by go_num, HW4.out.drewN 1, HP4.out.drewN 1, HA4.out.drewN 1, HB4.out.drewN 1⟩
              case measure => simp [intOf]; omega
            · have hd : (gg == (u : Int)) = false := beq_false_of_ne hy
              have HW4 := Lib.hid (HW3.out.congr (F' := fun i t' => (partCut v u (t + 1) (midCut u v S 1) i t').1) (G' := fun i t' => (partCut v u (t + 1) (midCut u v S 1) i t').2) fun p q _ _ => by
                rw [← partCut_no v u t (midCut u v S 1) (by rw [HGG.out]; exact hy)]
                exact ⟨rfl, rfl⟩)
              clear hy HW3 HGG
              go_wp2_with fail
              go_roundw
              case rel => exact ⟨t + 1, by omega, by go_num, HW4.out, HP3.out, HA3.out, HB3.out⟩
              case measure => simp [intOf]; omega
          · have et : t = n := by omega
            subst et
            have HW3 := Lib.hid (HW2.out.congr (F' := fun i t' => (midCut u v S 2 i t').1) (G' := fun i t' => (midCut u v S 2 i t').2) fun p q _ hq => by
              rw [partCut_end _ _ _ _ _ _ hq]
              exact ⟨rfl, rfl⟩)
            clear HW2 HP2
            go_wp2_with fail
            go_roundw
            case rel => exact ⟨2, by omega, rfl, HW3.out, HA2.out, HB2.out⟩
            case measure => simp [intOf]
      · clear cx0 cx1 cx2 cx3
        go_wp2_with fail
        go_ret
        exact ⟨rfl, ⟨_, _, _, _, _, _, HWR.out⟩, HBR.out⟩

end Go.Proofs.YtbepfmcaolmhgaaDoor

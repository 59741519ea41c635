/- LineTellsM: in one text: Still, LineCut, LineCutAny, QTwin, Lined, RefGraph, LineTells. -/
import Derived.Test.YtlbdbfmgkappaaaDoorLineStep
import Derived.Deep.QuietTactic
import Derived.BigQuiet
import Derived.Test.YtlbdbfmgkappaaaDoorLineOps
import Derived.Test.YtlbdbfmgkappaaaDoorLineTellsP
import Derived.Deep.RegionHeld3
import Derived.Test.YtlbdbfmgkappaaaDoorTail
import Derived.Test.YtlbdbfmgkappaaaDoorBellFixed
import Derived.Test.YtlbdbfmgkappaaaDoorInts
import Derived.Test.YtlbdbfmgkappaaaDoorCost
import Derived.Test.YtlbdbfmgkappaaaDoorErr
import Derived.Deep.Cut
import Derived.Deep.CutRange
import Derived.Deep.DeepCutAuto
/- A line's Still: does a step change anything? -/
namespace Go.Proofs.YtlbdbfmgkappaaaDoor
open Go.RowKit
set_option linter.unusedVariables false

set_option maxRecDepth 100000 in
set_option maxHeartbeats 2000000 in
theorem equalT_walk (gA gB n ca cb : Nat) (F G F' G' : Nat → Int) (w : World) (hA : RowP w gA 94 (n * 2) (placeC F G)) (hB : RowP w gB 94 (n * 2) (placeC F' G')) (hn : n ≤ 8) (b : Bool) (hb : b = true ↔ ∀ t, t < n → F t = F' t ∧ G t = G' t) :
    Calls Tryd.prog 66 #[.slice (some ⟨gA, 0, none⟩) n ca, .slice (some ⟨gB, 0, none⟩) n cb] w fun e w' => e = .returned (.bool b) ∧ ∃ k, w' = w.drewN k := by
  have HA := Lib.hid hA
  have HB := Lib.hid hB
  have HV := Lib.hid hb
  have hn' : (n : Int) ≤ 8 := by omega
  clear hA hB hb
  go_enter Tryd.func66, Tryd.ntmps66
  go_wp2_with fail
  go_loopw [13] (fun i wr => ∃ r : Nat, r ≤ n ∧ i = .int .i64 r ∧ Hid (∀ t, t < r → F t = F' t ∧ G t = G' t) ∧ ∃ k, wr = w.drewN k) (fun i _ => n - (intOf i).toNat)
  case atStart => exact ⟨0, by omega, rfl, Lib.hid (fun j hj => absurd hj (by omega)), 0, rfl⟩
  case round =>
    obtain ⟨r, hr, rfl, hd, k, rfl⟩ := hrel
    have HD := hd
    clear hd
    by_cases hlt : r < n
    · have hlt' : (r : Int) < n := by omega
      have x0 := HA.out.cell (i := r * 2) (by omega)
      have x1 := HA.out.cell (i := r * 2 + 1) (by omega)
      have y0 := HB.out.cell (i := r * 2) (by omega)
      have y1 := HB.out.cell (i := r * 2 + 1) (by omega)
      rw [placeC0] at x0 y0
      rw [placeC1] at x1 y1
      obtain ⟨f, hf⟩ : ∃ f, F r = f := ⟨_, rfl⟩
      obtain ⟨g, hg⟩ : ∃ g, G r = g := ⟨_, rfl⟩
      obtain ⟨f', hf'⟩ : ∃ f', F' r = f' := ⟨_, rfl⟩
      obtain ⟨g', hg'⟩ : ∃ g', G' r = g' := ⟨_, rfl⟩
      rw [hf] at x0
      rw [hg] at x1
      rw [hf'] at y0
      rw [hg'] at y1
      have HF := Lib.hid hf
      have HG := Lib.hid hg
      have HF' := Lib.hid hf'
      have HG' := Lib.hid hg'
      clear hf hg hf' hg'
      by_cases he : f = f' ∧ g = g'
      · obtain ⟨rfl, rfl⟩ := he
        have HN : Hid (∀ t, t < r + 1 → F t = F' t ∧ G t = G' t) := fun t ht => by
          rcases Nat.lt_or_ge t r with h | h
          · exact HD.out t h
          · obtain rfl : t = r := by omega
            exact ⟨HF.out.trans HF'.out.symm, HG.out.trans HG'.out.symm⟩
        go_wp2_with fail
        go_quiet (fail)
        go_wp2_with fail
        go_roundw
        case rel => exact ⟨r + 1, by omega, by go_num, HN, _, rfl⟩
        case measure => simp [intOf]; omega
      · have HN : Hid (b = false) := by
          show b = false
          cases hbb : b with
          | false => rfl
          | true =>
            have := (HV.out.1 hbb) r hlt
            rw [HF.out, HG.out, HF'.out, HG'.out] at this
            exact absurd this he
        rcases Classical.em (f = f') with h | h
        · subst h
          have hd1 : (g == g') = false := beq_false_of_ne fun h' => he ⟨rfl, h'⟩
          clear he
          go_wp2_with fail
          go_quiet (fail)
          go_wp2_with fail
          go_ret
          exact ⟨by rw [HN.out]; rfl, _, World.drewN_drewN _ _ _⟩
        · have hd1 : (f == f') = false := beq_false_of_ne h
          clear he
          go_wp2_with fail
          go_quiet (fail)
          go_wp2_with fail
          go_ret
          exact ⟨by rw [HN.out]; rfl, _, World.drewN_drewN _ _ _⟩
    · have HN : Hid (b = true) := HV.out.2 fun t ht => HD.out t (by omega)
      have hd1 : decide (r < n) = false := decide_eq_false hlt
      have hd2 : decide ((r : Int) < n) = false := decide_eq_false (by omega)
      have hd3 : decide (n ≤ r) = true := decide_eq_true (by omega)
      go_wp2_with fail
      go_ret
      exact ⟨by rw [HN.out]; rfl, k, rfl⟩

set_option maxRecDepth 100000 in
set_option maxHeartbeats 2000000 in
theorem equalRows_walk (gA gB n ca cb : Nat) (A CA B CB : Nat → Nat) (F G F' G' : Nat → Nat → Int) (w : World) (hA : RowP w gA 91 n fun r => .slice (some ⟨A r, 0, none⟩) n (CA r)) (hB : RowP w gB 91 n fun r => .slice (some ⟨B r, 0, none⟩) n (CB r))
    (hRA : ∀ r, r < n → RowP w (A r) 94 (n * 2) (placeC (F r) (G r))) (hRB : ∀ r, r < n → RowP w (B r) 94 (n * 2) (placeC (F' r) (G' r))) (hn : n ≤ 8) (b : Bool) (hb : b = true ↔ ∀ r t, r < n → t < n → F r t = F' r t ∧ G r t = G' r t) :
    Calls Tryd.prog 65 #[.slice (some ⟨gA, 0, none⟩) n ca, .slice (some ⟨gB, 0, none⟩) n cb, .func (.func 66) #[] #[]] w fun e w' => e = .returned (.bool b) ∧ ∃ k, w' = w.drewN k := by
  have HA := Lib.hid hA
  have HB := Lib.hid hB
  have HRA := Lib.hid hRA
  have HRB := Lib.hid hRB
  have HV := Lib.hid hb
  have hn' : (n : Int) ≤ 8 := by omega
  clear hA hB hb hRA hRB
  go_enter Tryd.func65, Tryd.ntmps65
  go_wp2_with fail
  go_loopw [17] (fun i wr => ∃ r : Nat, r ≤ n ∧ i = .int .i64 r ∧ Hid (∀ q t, q < r → t < n → F q t = F' q t ∧ G q t = G' q t) ∧ ∃ k, wr = w.drewN k) (fun i _ => n - (intOf i).toNat)
  case atStart => exact ⟨0, by omega, rfl, Lib.hid (fun j t hj => absurd hj (by omega)), 0, rfl⟩
  case round =>
    obtain ⟨r, hr, rfl, hd, k, rfl⟩ := hrel
    have HD := hd
    clear hd
    by_cases hlt : r < n
    · have hlt' : (r : Int) < n := by omega
      have x0 := HA.out.cell hlt
      have y0 := HB.out.cell hlt
      by_cases he : ∀ t, t < n → F r t = F' r t ∧ G r t = G' r t
      · have HN : Hid (∀ q t, q < r + 1 → t < n → F q t = F' q t ∧ G q t = G' q t) := fun q t hq ht => by
          rcases Nat.lt_or_ge q r with h | h
          · exact HD.out q t h ht
          · obtain rfl : q = r := by omega
            exact he t ht
        have hcall := equalT_walk (A r) (B r) n (CA r) (CB r) (F r) (G r) (F' r) (G' r) (w.drewN k) ((HRA.out r hlt).drewN k) ((HRB.out r hlt).drewN k) hn true ⟨fun _ => he, fun _ => rfl⟩
        have HC := Lib.hid hcall
        clear he hcall
        go_wp2_with fail
        refine HC.out.mono ?_
        rintro e w2 ⟨rfl, k2, rfl⟩
        go_wp2_with fail
        go_roundw
        case rel => exact ⟨r + 1, by omega, by go_num, HN, _, rfl⟩
        case measure => simp [intOf]; omega
      · have HN : Hid (b = false) := by
          show b = false
          cases hbb : b with
          | false => rfl
          | true => exact absurd (fun t ht => (HV.out.1 hbb) r t hlt ht) he
        have hcall := equalT_walk (A r) (B r) n (CA r) (CB r) (F r) (G r) (F' r) (G' r) (w.drewN k) ((HRA.out r hlt).drewN k) ((HRB.out r hlt).drewN k) hn false ⟨(by intro h; cases h), fun h => absurd h he⟩
        have HC := Lib.hid hcall
        clear he hcall
        go_wp2_with fail
        refine HC.out.mono ?_
        rintro e w2 ⟨rfl, k2, rfl⟩
        go_wp2_with fail
        go_ret
        exact ⟨by rw [HN.out]; rfl, _, rfl⟩
    · have HN : Hid (b = true) := HV.out.2 fun q t hq ht => HD.out q t (by omega) ht
      have hd1 : decide (r < n) = false := decide_eq_false hlt
      have hd2 : decide ((r : Int) < n) = false := decide_eq_false (by omega)
      have hd3 : decide (n ≤ r) = true := decide_eq_true (by omega)
      go_wp2_with fail
      go_ret
      exact ⟨by rw [HN.out]; rfl, k, rfl⟩

set_option maxRecDepth 100000 in
set_option maxHeartbeats 2000000 in
theorem lineStill (s n m : Nat) (lo : Nat) (po : Bool) (a b c : Nat → Int) (F G : Nat → Nat → Int) (w : World) (hN : NobT w) (h : LineH w lo s po n m a b c F G) (h1 : 1 ≤ n) (h8 : n ≤ 8) (hm : m ≤ 9223372036854775807) (hr : Right n m a b c)
    (hF : ∀ k t, k < n → t < n → 0 ≤ F k t ∧ F k t ≤ 16) (q : Bool) (hq : q = true ↔ ∀ i t, i < n → t < n → F i t = (thinkF po n t (costF m a b c) (fun k => F k t) (fun k => G k t) i).1 ∧ G i t = (thinkF po n t (costF m a b c) (fun k => F k t) (fun k => G k t) i).2) :
    Calls Tryd.prog 38 #[.pointer (some ⟨s, 0, none⟩)] w fun e w' => e = .returned (.bool q) ∧ Below w.heap.size w w' := by
  obtain ⟨lA, lc, gr, gc, B, C, h⟩ := h
  have hcall := stepped_walk s n m lo po lA lc gr gc B C a b c F G w.drew (hN.keep (Below.refl _ _).drew) (h.below (Below.refl _ _).drew) h1 h8 hm hr hF
  have HC := Lib.hid hcall
  have HW := Lib.hid h
  have HQ := Lib.hid hq
  have c2 := h.blk.cell 2
  simp at c2
  have hsl := h.blk.lt
  clear hcall h hr hF hN hq
  go_enter Tryd.func38, Tryd.ntmps38
  go_wp2_with fail
  go_region_law (first
    | (go_simp
       refine HC.out.mono ?_
       rintro e w1 ⟨v, B', C', rfl, hT, hb1⟩
       obtain ⟨g', c', hv, hg', hgl, hrow⟩ := hT.cells h1
       rw [hv] at hT ⊢
       have hb01 : Below w.heap.size w w1 := ((Below.refl w.heap.size w).drew).trans hb1
       have c3 := (hb01.cell hsl (p := ⟨s, 2, none⟩)).trans c2
       have HT := Lib.hid hT
       have HB01 := Lib.hid hb01
       have HRW := Lib.hid hrow
       clear hT hb1 hv hb01 hrow)
    | (go_simp
       refine (equalRows_walk gr g' n gc c' B C B' C' F G (fun i t => (thinkF po n t (costF m a b c) (fun k => F k t) (fun k => G k t) i).1) (fun i t => (thinkF po n t (costF m a b c) (fun k => F k t) (fun k => G k t) i).2) w1 ((HW.out.outer h1).below HB01.out (HW.out.outer h1).lt) HRW.out (fun r hr => ((HW.out.tht.row r hr).2).below HB01.out (HW.out.tht.row r hr).2.lt) (fun r hr => (HT.out.row r hr).2) h8 q HQ.out).mono ?_
       rintro e w2 ⟨rfl, k2, rfl⟩))
  all_goals
    go_wp2_with fail
    go_ret
    exact ⟨rfl, below_drewN HB01.out _⟩

end Go.Proofs.YtlbdbfmgkappaaaDoor

/- The walk of a line's Cut. -/
namespace Go.Proofs.YtlbdbfmgkappaaaDoor
open Go.RowKit
set_option linter.unusedVariables false

/-- Node x forgets whatever it has by y. -/
def rowCut (x y : Nat) (S : Nat → Nat → Int × Int) (i t : Nat) : Int × Int := if i = x ∧ (S i t).2 = (y : Int) then (16, -1) else S i t
/-- Of the first q nodes. -/
def partCut (x y q : Nat) (S : Nat → Nat → Int × Int) (i t : Nat) : Int × Int := if i = x ∧ t < q ∧ (S i t).2 = (y : Int) then (16, -1) else S i t
/-- Both ends of the link. -/
def bothCut (u v : Nat) (S : Nat → Nat → Int × Int) : Nat → Nat → Int × Int := rowCut v u (rowCut u v S)
def midCut (u v : Nat) (S : Nat → Nat → Int × Int) (r : Nat) : Nat → Nat → Int × Int := if r = 0 then S else if r = 1 then rowCut u v S else bothCut u v S

theorem partCut_start (x y : Nat) (S : Nat → Nat → Int × Int) (i t : Nat) : S i t = partCut x y 0 S i t := by
  unfold partCut
  rw [if_neg (by omega)]
theorem partCut_end (x y n : Nat) (S : Nat → Nat → Int × Int) (i t : Nat) (ht : t < n) : partCut x y n S i t = rowCut x y S i t := by
  unfold partCut rowCut
  by_cases h : i = x ∧ (S i t).2 = (y : Int)
  · rw [if_pos ⟨h.1, ht, h.2⟩, if_pos h]
  · rw [if_neg fun h' => h ⟨h'.1, h'.2.2⟩, if_neg h]
theorem partCut_yes (x y q : Nat) (S : Nat → Nat → Int × Int) (h : (S x q).2 = (y : Int)) (i t : Nat) : (if i = x ∧ t = q then ((16 : Int), (-1 : Int)) else partCut x y q S i t) = partCut x y (q + 1) S i t := by
  unfold partCut
  by_cases e : i = x ∧ t = q
  · obtain ⟨rfl, rfl⟩ := e
    rw [if_pos ⟨rfl, rfl⟩, if_pos ⟨rfl, by omega, h⟩]
  · rw [if_neg e]
    by_cases h' : i = x ∧ t < q ∧ (S i t).2 = (y : Int)
    · rw [if_pos h', if_pos ⟨h'.1, by omega, h'.2.2⟩]
    · rw [if_neg h', if_neg fun h2 => h' ⟨h2.1, by
        have := h2.2.1
        rcases Nat.lt_or_ge t q with h3 | h3
        · exact h3
        · exact absurd ⟨h2.1, by omega⟩ e, h2.2.2⟩]
theorem partCut_no (x y q : Nat) (S : Nat → Nat → Int × Int) (h : (S x q).2 ≠ (y : Int)) (i t : Nat) : partCut x y q S i t = partCut x y (q + 1) S i t := by
  unfold partCut
  by_cases h' : i = x ∧ t < q ∧ (S i t).2 = (y : Int)
  · rw [if_pos h', if_pos ⟨h'.1, by omega, h'.2.2⟩]
  · rw [if_neg h', if_neg fun h2 => h' ⟨h2.1, by
      have := h2.2.1
      rcases Nat.lt_or_ge t q with h3 | h3
      · exact h3
      · obtain rfl : t = q := by omega
        exact absurd h2.2.2 (by rw [h2.1]; exact h), h2.2.2⟩]
theorem partCut_at (x y q : Nat) (S : Nat → Nat → Int × Int) : partCut x y q S x q = S x q := by
  unfold partCut
  rw [if_neg (by omega)]

theorem cut_ranged {n u v : Nat} {S : Nat → Nat → Int × Int} (h : ∀ k t, k < n → t < n → 0 ≤ (S k t).1 ∧ (S k t).1 ≤ 16) : ∀ k t, k < n → t < n → 0 ≤ (bothCut u v S k t).1 ∧ (bothCut u v S k t).1 ≤ 16 := by
  have h1 : ∀ (x y : Nat) (T : Nat → Nat → Int × Int), (∀ k t, k < n → t < n → 0 ≤ (T k t).1 ∧ (T k t).1 ≤ 16) → ∀ k t, k < n → t < n → 0 ≤ (rowCut x y T k t).1 ∧ (rowCut x y T k t).1 ≤ 16 := fun x y T hT k t hk ht => by
    unfold rowCut
    split
    · decide
    · exact hT k t hk ht
  exact h1 _ _ _ (h1 _ _ _ h)

section
variable {w w' : World} {lo s : Nat} {po : Bool} {lA : Option Addr} {lc gr gc : Nat} {B C : Nat → Nat} {n m : Nat} {a b c : Nat → Int} {F G F' G' : Nat → Nat → Int}
theorem LineW.drewN (h : LineW w lo s po lA lc gr gc B C n m a b c F G) (k : Nat) : LineW (w.drewN k) lo s po lA lc gr gc B C n m a b c F G := ⟨h.blk, h.lks, h.tht.drewN k, h.lo⟩
theorem LineW.congr (h : LineW w lo s po lA lc gr gc B C n m a b c F G) (e : ∀ r t, r < n → t < n → F r t = F' r t ∧ G r t = G' r t) : LineW w lo s po lA lc gr gc B C n m a b c F' G' :=
  ⟨h.blk, h.lks, h.tht.congr e, h.lo⟩
theorem LineW.set (h : LineW w lo s po lA lc gr gc B C n m a b c F G) {r : Nat} (hr : r < n) (t : Nat) (x y : Int) :
    LineW ((w.setCell ⟨B r, t * 2, none⟩ (.int .i64 x)).setCell ⟨B r, t * 2 + 1, none⟩ (.int .i64 y)) lo s po lA lc gr gc B C n m a b c (fun p q => if p = r ∧ q = t then x else F p q) (fun p q => if p = r ∧ q = t then y else G p q) := by
  have hrow := (h.tht.row r hr).2
  have hs : s ≠ B r := fun e => h.blk.ne_row hrow (by decide) e.symm
  refine ⟨(h.blk.far (p := ⟨B r, t * 2, none⟩) hs _).far (p := ⟨B r, t * 2 + 1, none⟩) hs _, ?_, h.tht.set hr t x y, h.lo⟩
  rcases h.lks with e | ⟨gl, e, h2, hl⟩
  · exact .inl e
  · have hg : gl ≠ B r := hl.ne_type hrow (by decide)
    exact .inr ⟨gl, e, h2, (hl.setOther (a := ⟨B r, t * 2, none⟩) hg _).setOther (a := ⟨B r, t * 2 + 1, none⟩) hg _⟩
/-- Other links. -/
theorem LineW.links (h : LineW w lo s po lA lc gr gc B C n m a b c F G) {g q m' : Nat} {a' b' c' : Nat → Int} (hlo : lo ≤ g) (hr : RowP w g 31 (m' * 3) (linkC a' b' c')) :
    LineW (w.setCell ⟨s, 0, none⟩ (.slice (some ⟨g, 0, none⟩) m' q)) lo s po (some ⟨g, 0, none⟩) q gr gc B C n m' a' b' c' F G := by
  refine ⟨by simpa using h.blk.set_ 0 (.slice (some ⟨g, 0, none⟩) m' q), .inr ⟨g, rfl, hlo, hr.setOther (h.blk.ne_row hr (by decide)) _⟩, ?_, h.lo⟩
  have ht := h.tht
  refine ⟨?_, fun r hr => ⟨(ht.row r hr).1, (ht.row r hr).2.setOther (h.blk.ne_row (ht.row r hr).2 (by decide)) _⟩, ht.inj⟩
  have hne : (Value.slice (some ⟨gr, 0, none⟩) n gc).ownBlock ≠ some s := by
    intro e
    have e' : gr = s := by simpa [Value.ownBlock] using e
    subst e'
    rcases ht.own.2 with ⟨hv, _⟩ | ⟨g', cap, cur, hv, _, hg', _⟩
    · cases hv
    · have : gr = g' := by
        simp only [Value.slice.injEq, Option.some.injEq, Addr.mk.injEq] at hv
        exact hv.1.1
      subst this
      have hb := h.blk
      unfold Blk at hb
      rw [hg'] at hb
      simp at hb
  exact ht.own.kept (row := some s) ⟨rfl, rfl, rfl, by simp [World.setCell], fun k hk hne => Below.heap_setCell _ _ _ _ (fun e => hne (by rw [e]))⟩ (.inr hne)
end

theorem NobT.low {w w' : World} {lo : Nat} (h : NobT w) (hb : Below lo w w') (hl : 0 < lo) : NobT w' := ⟨(hb.cell (p := ⟨0, 0, none⟩) hl).trans h.1, (hb.cell (p := ⟨0, 1, none⟩) hl).trans h.2⟩

set_option maxRecDepth 100000 in
set_option maxHeartbeats 8000000 in
theorem lineCut_ok (s n m j u v : Nat) (lo : Nat) (po : Bool) (a b c : Nat → Int) (S : Nat → Nat → Int × Int) (w : World) (hN : NobT w) (h : LineH w lo s po n m a b c (fun i t => (S i t).1) (fun i t => (S i t).2)) (h1 : 1 ≤ n) (h8 : n ≤ 8) (hm : m ≤ 9223372036854775807) (hr : Right n m a b c)
    (hj : j < m) (hu : u < n) (hv : v < n) (huv : u ≠ v) (hmt : Mt a b j u v) (hlo : lo ≤ w.heap.size) (hnl : 0 < lo) :
    Calls Tryd.prog 33 #[.pointer (some ⟨s, 0, none⟩), .int .i64 u, .int .i64 v] w fun e w' => e = .returned .nilIface ∧
      LineH w' lo s po n (m - 1) (dropF j a) (dropF j b) (dropF j c) (fun i t => (bothCut u v S i t).1) (fun i t => (bothCut u v S i t).2) ∧ Fr lo w w' := by
  obtain ⟨lA, lc, gr, gc, B, C, h⟩ := h
  have hg : GoodG n m a b c := ⟨by omega, by omega, by simpa using hr⟩
  have c0 := h.blk.cell 0
  have c2 := h.blk.cell 2
  simp at c0 c2
  have hls := h.blk.lt
  have h8' : (n : Int) ≤ 8 := by omega
  have hu' : (u : Int) < n := by omega
  have hv' : (v : Int) < n := by omega
  have HW := Lib.hid h
  have HN := Lib.hid hN
  have HG := Lib.hid hg
  have HMT := Lib.hid hmt
  have HC0 : Hid (w.drew.cell? ⟨s, 2, none⟩ = some (.slice (some ⟨gr, 0, none⟩) n gc) ∧ w.drew.cell? ⟨s, 0, none⟩ = some (.slice lA m lc)) := ⟨c2, c0⟩
  have HKP : Hid (∀ w4, Below w.heap.size w.drew w4 → w4.cell? ⟨s, 2, none⟩ = some (.slice (some ⟨gr, 0, none⟩) n gc) ∧ w4.cell? ⟨s, 0, none⟩ = some (.slice lA m lc)) := fun w4 hb => ⟨(hb.cell (p := ⟨s, 2, none⟩) hls).trans HC0.out.1, (hb.cell (p := ⟨s, 0, none⟩) hls).trans HC0.out.2⟩
  clear h hg hr hN hmt
  go_enter Tryd.func33, Tryd.ntmps33
  go_wp2_with fail
  go_region_held3 (fun w' => w'.cell? ⟨s, 2, none⟩ = some (.slice (some ⟨gr, 0, none⟩) n gc) ∧ w'.cell? ⟨s, 0, none⟩ = some (.slice lA m lc))
    (first | exact HC0.out | exact HKP.out _ hb4 | go_keep)
    (first | (go_at_call 62; refine (cut_ok n u v lA m lc j a b c _ (HW.out.lks.lnk.keep ((Below.refl w.heap.size w).drew)) hm HG.out hj HMT.out).mono ?_; rintro e w4 ⟨g4, cap4, rfl, hg4, hrow4, hb4⟩))
  all_goals
    have hb24 : Below w.heap.size w w4 := ((Below.refl w.heap.size w).drew).trans hb4
    have hw4 := HW.out.below hb24
    have hlog : lo ≤ g4 := Nat.le_trans hlo hg4
    have HW5 := Lib.hid (hw4.links (q := cap4) hlog hrow4)
    have HB5 : Hid (Fr lo w (w4.setCell ⟨s, 0, none⟩ (.slice (some ⟨g4, 0, none⟩) (m - 1) cap4))) := (Fr.of_below hb24 hlo).setS hw4.blk hw4.lo _ _
    have HN5 := Lib.hid (HN.out)
    have hc4 := hw4.blk.cell 0
    have hf4 := hw4.blk.frozen 0
    simp at hc4
    clear hb24 hb4 hrow4 hw4 HC0 HKP c0 c2
    have HSW : Hid (w4.heap.size = (w4.setCell ⟨s, 0, none⟩ (.slice (some ⟨g4, 0, none⟩) (m - 1) cap4)).heap.size) := by
      show w4.heap.size = _
      simp
    have HLO : Hid (lo ≤ w.heap.size) := hlo
    have HA5 := Lib.hid (Blk.new (w4.setCell ⟨s, 0, none⟩ (.slice (some ⟨g4, 0, none⟩) (m - 1) cap4)) 111 #[.int .i64 u, .int .i64 v, .int .i64 v, .int .i64 u])
    have HW6 := Lib.hid (HW5.out.below ((Below.refl _ _).alloc (Nat.le_refl _) (.cells #[.int .i64 u, .int .i64 v, .int .i64 v, .int .i64 u] 111)))
    have HB6 := Lib.hid (HB5.out.alloc (Nat.le_trans hlo HB5.out.size) (.cells #[.int .i64 u, .int .i64 v, .int .i64 v, .int .i64 u] 111))
    rw [← HSW.out] at HA5
    obtain ⟨ba, hba⟩ : ∃ ba, w4.heap.size = ba := ⟨_, rfl⟩
    rw [hba] at HA5
    clear HSW HW5 HB5
    go_wp2_with fail
    clear hba hc4 hf4
    go_loopw [43] (fun q wi => ∃ r : Nat, r ≤ 2 ∧ q = .int .i64 r ∧ LineW wi lo s po (some ⟨g4, 0, none⟩) cap4 gr gc B C n (m - 1) (dropF j a) (dropF j b) (dropF j c) (fun i t => (midCut u v S r i t).1) (fun i t => (midCut u v S r i t).2) ∧ Blk wi ba 111 #[.int .i64 u, .int .i64 v, .int .i64 v, .int .i64 u] ∧ Fr lo w wi) (fun q _ => 2 - (intOf q).toNat)
    case atStart => exact ⟨0, by omega, rfl, HW6.out, HA5.out, HB6.out⟩
    case round =>
      obtain ⟨r, hr, rfl, hW, hA, hB⟩ := hrel
      have HWR := Lib.hid hW
      have HAR := Lib.hid hA
      have HBR := Lib.hid hB
      have HSZ := Lib.hid hB.size
      clear hW hA hB HW6 HA5 HB6
      have cx0 := HAR.out.cell 0
      have cx1 := HAR.out.cell 1
      have cx2 := HAR.out.cell 2
      have cx3 := HAR.out.cell 3
      simp only [List.getElem?_toArray, List.getElem?_cons_zero, List.getElem?_cons_succ] at cx0 cx1 cx2 cx3
      have h3 : r = 0 ∨ r = 1 ∨ r = 2 := by omega
      rcases h3 with rfl | rfl | rfl
      · have cw2 := HWR.out.blk.cell 2
        have cgx := (HWR.out.outer h1).cell hu
        simp at cw2
        have hwa := HWR.out.below ((Below.refl wr.heap.size wr).alloc (Nat.le_refl _) (.cells #[.int .i64 u, .int .i64 v] 111))
        have HWA := Lib.hid (hwa.congr (F' := fun i t => (partCut u v 0 (midCut u v S 0) i t).1) (G' := fun i t => (partCut u v 0 (midCut u v S 0) i t).2) fun i t _ _ => by rw [← partCut_start]; exact ⟨rfl, rfl⟩)
        have HPA := Lib.hid (Blk.new wr 111 #[.int .i64 u, .int .i64 v])
        have HAA := Lib.hid (HAR.out.alloc (.cells #[.int .i64 u, .int .i64 v] 111))
        have HBA := Lib.hid (HBR.out.alloc (Nat.le_trans HLO.out HSZ.out) (.cells #[.int .i64 u, .int .i64 v] 111))
        have hwa2 := hwa.blk.cell 2
        have hwax := (hwa.outer h1).cell hu
        simp at hwa2
        obtain ⟨bp, hbp⟩ : ∃ bp, wr.heap.size = bp := ⟨_, rfl⟩
        rw [hbp] at HPA
        have hp0 := HPA.out.cell 0
        have hp1 := HPA.out.cell 1
        simp only [List.getElem?_toArray, List.getElem?_cons_zero, List.getElem?_cons_succ] at hp0 hp1
        clear hwa
        go_wp2_with fail
        clear hbp
        go_quiet (fail)
        go_wp2_with fail
        clear cx0 cx1 cx2 cx3 cw2 cgx hwa2 hwax hp0 hp1
        have HWB := Lib.hid (HWA.out.drewN nq)
        have HPB := Lib.hid (HPA.out.drewN nq)
        have HAB := Lib.hid (HAA.out.drewN nq)
        have HBB := Lib.hid (HBA.out.drewN nq)
        clear HWA HPA HAA HBA HWR HAR HBR
        go_loopw [56] (fun q wi => ∃ t : Nat, t ≤ n ∧ q = .int .i64 t ∧ LineW wi lo s po (some ⟨g4, 0, none⟩) cap4 gr gc B C n (m - 1) (dropF j a) (dropF j b) (dropF j c) (fun i t' => (partCut u v t (midCut u v S 0) i t').1) (fun i t' => (partCut u v t (midCut u v S 0) i t').2) ∧ Blk wi bp 111 #[.int .i64 u, .int .i64 v] ∧ Blk wi ba 111 #[.int .i64 u, .int .i64 v, .int .i64 v, .int .i64 u] ∧ Fr lo w wi) (fun q _ => n - (intOf q).toNat)
        case atStart => exact ⟨0, by omega, rfl, HWB.out, HPB.out, HAB.out, HBB.out⟩
        case round =>
          obtain ⟨t, ht, rfl, hW, hP, hA, hB⟩ := hrel
          have HW2 := Lib.hid hW
          have HP2 := Lib.hid hP
          have HA2 := Lib.hid hA
          have HB2 := Lib.hid hB
          clear hW hP hA hB HWB HPB HAB HBB
          by_cases htn : t < n
          · have htn' : (t : Int) < n := by omega
            have hrow := (HW2.out.tht.row u hu).2
            have cf := hrow.cell (i := t * 2) (by omega)
            have cn := hrow.cell (i := t * 2 + 1) (by omega)
            rw [placeC0, partCut_at] at cf
            rw [placeC1, partCut_at] at cn
            obtain ⟨ff, hff⟩ : ∃ ff, (midCut u v S 0 u t).1 = ff := ⟨_, rfl⟩
            obtain ⟨gg, hgg⟩ : ∃ gg, (midCut u v S 0 u t).2 = gg := ⟨_, rfl⟩
            rw [hff] at cf
            rw [hgg] at cn
            have HGG := Lib.hid hgg
            have hba := (Below.refl wr.heap.size wr).alloc (Nat.le_refl _) (.cells #[.int .i64 ff, .int .i64 gg] 94)
            have HW3 := Lib.hid (HW2.out.below hba)
            have HP3 := Lib.hid (HP2.out.below hba HP2.out.lt)
            have HA3 := Lib.hid (HA2.out.below hba HA2.out.lt)
            have hsz := HB2.out.size
            have HB3 := Lib.hid (HB2.out.alloc (Nat.le_trans HLO.out hsz) (.cells #[.int .i64 ff, .int .i64 gg] 94))
            have cp1 := HP3.out.cell 1
            have cp0 := HP3.out.cell 0
            simp only [List.getElem?_toArray, List.getElem?_cons_zero, List.getElem?_cons_succ] at cp0 cp1
            have cw2 := HW3.out.blk.cell 2
            simp at cw2
            have cgx := (HW3.out.outer h1).cell hu
            clear hff hgg hrow hba HW2 HP2 HA2 HB2 hsz
            by_cases hy : gg = (v : Int)
            · obtain ⟨n0, n1⟩ := HN5.out.low HB3.out.bel hnl
              have hrow3 := (HW3.out.tht.row u hu).2
              have c30 := hrow3.cell (i := t * 2) (by omega)
              have c31 := hrow3.cell (i := t * 2 + 1) (by omega)
              rw [placeC0] at c30
              rw [placeC1] at c31
              have f30 := hrow3.frozen (t * 2)
              have f31 := hrow3.frozen (t * 2 + 1)
              have hbs := HW3.out.set hu t 16 (-1)
              have HW4 := Lib.hid (hbs.congr (F' := fun i t' => (partCut u v (t + 1) (midCut u v S 0) i t').1) (G' := fun i t' => (partCut u v (t + 1) (midCut u v S 0) i t').2) fun p q _ _ => by
                rw [← partCut_yes u v t (midCut u v S 0) (by rw [HGG.out]; exact hy)]
                by_cases e : p = u ∧ q = t
                · rw [if_pos e, if_pos e, if_pos e]; exact ⟨rfl, rfl⟩
                · rw [if_neg e, if_neg e, if_neg e]; exact ⟨rfl, rfl⟩)
              have hpb : bp ≠ B u := fun e => HP3.out.ne_row hrow3 (by decide) e.symm
              have hab : ba ≠ B u := fun e => HA3.out.ne_row hrow3 (by decide) e.symm
              have HP4 := Lib.hid ((HP3.out.far (p := ⟨B u, t * 2, none⟩) hpb (.int .i64 16)).far (p := ⟨B u, t * 2 + 1, none⟩) hpb (.int .i64 (-1)))
              have HA4 := Lib.hid ((HA3.out.far (p := ⟨B u, t * 2, none⟩) hab (.int .i64 16)).far (p := ⟨B u, t * 2 + 1, none⟩) hab (.int .i64 (-1)))
              have hlb := (HW3.out.tht.row u hu).1
              have HB4 := Lib.hid ((HB3.out.setR hrow3 hlb (t * 2) (.int .i64 16)).setR (hrow3.set (t * 2) (.int .i64 16)) hlb (t * 2 + 1) (.int .i64 (-1)))
              subst hy
              clear hrow3 hbs hpb hab hlb HW3 HP3 HA3 HB3 HGG
              go_wp2_with fail
              refine wp_region_quiet_tail 11 (by kernel_rfl) (by kernel_rfl) ?_
              simp only [List.take_succ_cons, List.take_zero, List.drop_succ_cons, List.drop_zero]
              repeat (go_big_quiet_step (fail))
              refine wpQuiet_nil ?_
              go_wp2_with fail
              go_roundw
              case rel => exact ⟨t + 1, by omega, by go_num, HW4.out.drewN 1, HP4.out.drewN 1, HA4.out.drewN 1, HB4.out.drewN 1⟩
              case measure => simp [intOf]; omega
            · have hd : (gg == (v : Int)) = false := beq_false_of_ne hy
              have HW4 := Lib.hid (HW3.out.congr (F' := fun i t' => (partCut u v (t + 1) (midCut u v S 0) i t').1) (G' := fun i t' => (partCut u v (t + 1) (midCut u v S 0) i t').2) fun p q _ _ => by
                rw [← partCut_no u v t (midCut u v S 0) (by rw [HGG.out]; exact hy)]
                exact ⟨rfl, rfl⟩)
              clear hy HW3 HGG
              go_wp2_with fail
              go_roundw
              case rel => exact ⟨t + 1, by omega, by go_num, HW4.out, HP3.out, HA3.out, HB3.out⟩
              case measure => simp [intOf]; omega
          · have et : t = n := by omega
            subst et
            have HW3 := Lib.hid (HW2.out.congr (F' := fun i t' => (midCut u v S 1 i t').1) (G' := fun i t' => (midCut u v S 1 i t').2) fun p q _ hq => by
              rw [partCut_end _ _ _ _ _ _ hq]
              exact ⟨rfl, rfl⟩)
            clear HW2 HP2
            go_wp2_with fail
            go_roundw
            case rel => exact ⟨1, by omega, rfl, HW3.out, HA2.out, HB2.out⟩
            case measure => simp [intOf]
      · have cw2 := HWR.out.blk.cell 2
        have cgx := (HWR.out.outer h1).cell hv
        simp at cw2
        have hwa := HWR.out.below ((Below.refl wr.heap.size wr).alloc (Nat.le_refl _) (.cells #[.int .i64 v, .int .i64 u] 111))
        have HWA := Lib.hid (hwa.congr (F' := fun i t => (partCut v u 0 (midCut u v S 1) i t).1) (G' := fun i t => (partCut v u 0 (midCut u v S 1) i t).2) fun i t _ _ => by rw [← partCut_start]; exact ⟨rfl, rfl⟩)
        have HPA := Lib.hid (Blk.new wr 111 #[.int .i64 v, .int .i64 u])
        have HAA := Lib.hid (HAR.out.alloc (.cells #[.int .i64 v, .int .i64 u] 111))
        have HBA := Lib.hid (HBR.out.alloc (Nat.le_trans HLO.out HSZ.out) (.cells #[.int .i64 v, .int .i64 u] 111))
        have hwa2 := hwa.blk.cell 2
        have hwax := (hwa.outer h1).cell hv
        simp at hwa2
        obtain ⟨bp, hbp⟩ : ∃ bp, wr.heap.size = bp := ⟨_, rfl⟩
        rw [hbp] at HPA
        have hp0 := HPA.out.cell 0
        have hp1 := HPA.out.cell 1
        simp only [List.getElem?_toArray, List.getElem?_cons_zero, List.getElem?_cons_succ] at hp0 hp1
        clear hwa
        go_wp2_with fail
        clear hbp
        go_quiet (fail)
        go_wp2_with fail
        clear cx0 cx1 cx2 cx3 cw2 cgx hwa2 hwax hp0 hp1
        have HWB := Lib.hid (HWA.out.drewN nq)
        have HPB := Lib.hid (HPA.out.drewN nq)
        have HAB := Lib.hid (HAA.out.drewN nq)
        have HBB := Lib.hid (HBA.out.drewN nq)
        clear HWA HPA HAA HBA HWR HAR HBR
        go_loopw [56] (fun q wi => ∃ t : Nat, t ≤ n ∧ q = .int .i64 t ∧ LineW wi lo s po (some ⟨g4, 0, none⟩) cap4 gr gc B C n (m - 1) (dropF j a) (dropF j b) (dropF j c) (fun i t' => (partCut v u t (midCut u v S 1) i t').1) (fun i t' => (partCut v u t (midCut u v S 1) i t').2) ∧ Blk wi bp 111 #[.int .i64 v, .int .i64 u] ∧ Blk wi ba 111 #[.int .i64 u, .int .i64 v, .int .i64 v, .int .i64 u] ∧ Fr lo w wi) (fun q _ => n - (intOf q).toNat)
        case atStart => exact ⟨0, by omega, rfl, HWB.out, HPB.out, HAB.out, HBB.out⟩
        case round =>
          obtain ⟨t, ht, rfl, hW, hP, hA, hB⟩ := hrel
          have HW2 := Lib.hid hW
          have HP2 := Lib.hid hP
          have HA2 := Lib.hid hA
          have HB2 := Lib.hid hB
          clear hW hP hA hB HWB HPB HAB HBB
          by_cases htn : t < n
          · have htn' : (t : Int) < n := by omega
            have hrow := (HW2.out.tht.row v hv).2
            have cf := hrow.cell (i := t * 2) (by omega)
            have cn := hrow.cell (i := t * 2 + 1) (by omega)
            rw [placeC0, partCut_at] at cf
            rw [placeC1, partCut_at] at cn
            obtain ⟨ff, hff⟩ : ∃ ff, (midCut u v S 1 v t).1 = ff := ⟨_, rfl⟩
            obtain ⟨gg, hgg⟩ : ∃ gg, (midCut u v S 1 v t).2 = gg := ⟨_, rfl⟩
            rw [hff] at cf
            rw [hgg] at cn
            have HGG := Lib.hid hgg
            have hba := (Below.refl wr.heap.size wr).alloc (Nat.le_refl _) (.cells #[.int .i64 ff, .int .i64 gg] 94)
            have HW3 := Lib.hid (HW2.out.below hba)
            have HP3 := Lib.hid (HP2.out.below hba HP2.out.lt)
            have HA3 := Lib.hid (HA2.out.below hba HA2.out.lt)
            have hsz := HB2.out.size
            have HB3 := Lib.hid (HB2.out.alloc (Nat.le_trans HLO.out hsz) (.cells #[.int .i64 ff, .int .i64 gg] 94))
            have cp1 := HP3.out.cell 1
            have cp0 := HP3.out.cell 0
            simp only [List.getElem?_toArray, List.getElem?_cons_zero, List.getElem?_cons_succ] at cp0 cp1
            have cw2 := HW3.out.blk.cell 2
            simp at cw2
            have cgx := (HW3.out.outer h1).cell hv
            clear hff hgg hrow hba HW2 HP2 HA2 HB2 hsz
            by_cases hy : gg = (u : Int)
            · obtain ⟨n0, n1⟩ := HN5.out.low HB3.out.bel hnl
              have hrow3 := (HW3.out.tht.row v hv).2
              have c30 := hrow3.cell (i := t * 2) (by omega)
              have c31 := hrow3.cell (i := t * 2 + 1) (by omega)
              rw [placeC0] at c30
              rw [placeC1] at c31
              have f30 := hrow3.frozen (t * 2)
              have f31 := hrow3.frozen (t * 2 + 1)
              have hbs := HW3.out.set hv t 16 (-1)
              have HW4 := Lib.hid (hbs.congr (F' := fun i t' => (partCut v u (t + 1) (midCut u v S 1) i t').1) (G' := fun i t' => (partCut v u (t + 1) (midCut u v S 1) i t').2) fun p q _ _ => by
                rw [← partCut_yes v u t (midCut u v S 1) (by rw [HGG.out]; exact hy)]
                by_cases e : p = v ∧ q = t
                · rw [if_pos e, if_pos e, if_pos e]; exact ⟨rfl, rfl⟩
                · rw [if_neg e, if_neg e, if_neg e]; exact ⟨rfl, rfl⟩)
              have hpb : bp ≠ B v := fun e => HP3.out.ne_row hrow3 (by decide) e.symm
              have hab : ba ≠ B v := fun e => HA3.out.ne_row hrow3 (by decide) e.symm
              have HP4 := Lib.hid ((HP3.out.far (p := ⟨B v, t * 2, none⟩) hpb (.int .i64 16)).far (p := ⟨B v, t * 2 + 1, none⟩) hpb (.int .i64 (-1)))
              have HA4 := Lib.hid ((HA3.out.far (p := ⟨B v, t * 2, none⟩) hab (.int .i64 16)).far (p := ⟨B v, t * 2 + 1, none⟩) hab (.int .i64 (-1)))
              have hlb := (HW3.out.tht.row v hv).1
              have HB4 := Lib.hid ((HB3.out.setR hrow3 hlb (t * 2) (.int .i64 16)).setR (hrow3.set (t * 2) (.int .i64 16)) hlb (t * 2 + 1) (.int .i64 (-1)))
              subst hy
              clear hrow3 hbs hpb hab hlb HW3 HP3 HA3 HB3 HGG
              go_wp2_with fail
              refine wp_region_quiet_tail 11 (by kernel_rfl) (by kernel_rfl) ?_
              simp only [List.take_succ_cons, List.take_zero, List.drop_succ_cons, List.drop_zero]
              repeat (go_big_quiet_step (fail))
              refine wpQuiet_nil ?_
              go_wp2_with fail
              go_roundw
              case rel => exact ⟨t + 1, by omega, by go_num, HW4.out.drewN 1, HP4.out.drewN 1, HA4.out.drewN 1, HB4.out.drewN 1⟩
              case measure => simp [intOf]; omega
            · have hd : (gg == (u : Int)) = false := beq_false_of_ne hy
              have HW4 := Lib.hid (HW3.out.congr (F' := fun i t' => (partCut v u (t + 1) (midCut u v S 1) i t').1) (G' := fun i t' => (partCut v u (t + 1) (midCut u v S 1) i t').2) fun p q _ _ => by
                rw [← partCut_no v u t (midCut u v S 1) (by rw [HGG.out]; exact hy)]
                exact ⟨rfl, rfl⟩)
              clear hy HW3 HGG
              go_wp2_with fail
              go_roundw
              case rel => exact ⟨t + 1, by omega, by go_num, HW4.out, HP3.out, HA3.out, HB3.out⟩
              case measure => simp [intOf]; omega
          · have et : t = n := by omega
            subst et
            have HW3 := Lib.hid (HW2.out.congr (F' := fun i t' => (midCut u v S 2 i t').1) (G' := fun i t' => (midCut u v S 2 i t').2) fun p q _ hq => by
              rw [partCut_end _ _ _ _ _ _ hq]
              exact ⟨rfl, rfl⟩)
            clear HW2 HP2
            go_wp2_with fail
            go_roundw
            case rel => exact ⟨2, by omega, rfl, HW3.out, HA2.out, HB2.out⟩
            case measure => simp [intOf]
      · clear cx0 cx1 cx2 cx3
        go_wp2_with fail
        go_ret
        exact ⟨rfl, ⟨_, _, _, _, _, _, HWR.out⟩, HBR.out⟩

end Go.Proofs.YtlbdbfmgkappaaaDoor

/- A line's Cut of any two different nodes: the link or none. -/
namespace Go.Proofs.YtlbdbfmgkappaaaDoor
open Go.RowKit
set_option linter.unusedVariables false

set_option maxRecDepth 100000 in
set_option maxHeartbeats 2000000 in
theorem lineCut_none (s n m : Nat) (u v : Int) (lo : Nat) (po : Bool) (a b c : Nat → Int) (F G : Nat → Nat → Int) (w : World) (h : LineH w lo s po n m a b c F G) (h1 : 1 ≤ n) (h8 : n ≤ 8) (hm : m ≤ 9223372036854775807) (hr : Right n m a b c)
    (hn : ∀ j, j < m → ¬ Mt a b j u v) :
    Calls Tryd.prog 33 #[.pointer (some ⟨s, 0, none⟩), .int .i64 u, .int .i64 v] w fun e w' => e = .returned (errNo 2) ∧ Below w.heap.size w w' := by
  obtain ⟨lA, lc, gr, gc, B, C, h⟩ := h
  have hg : GoodG n m a b c := ⟨by omega, by omega, by simpa using hr⟩
  have c0 := h.blk.cell 0
  have c2 := h.blk.cell 2
  simp at c0 c2
  have hls := h.blk.lt
  have h8' : (n : Int) ≤ 8 := by omega
  have HW := Lib.hid h
  have HG := Lib.hid hg
  have HMT := Lib.hid hn
  have HC0 : Hid (w.drew.cell? ⟨s, 2, none⟩ = some (.slice (some ⟨gr, 0, none⟩) n gc) ∧ w.drew.cell? ⟨s, 0, none⟩ = some (.slice lA m lc)) := ⟨c2, c0⟩
  have HKP : Hid (∀ w4, Below w.heap.size w.drew w4 → w4.cell? ⟨s, 2, none⟩ = some (.slice (some ⟨gr, 0, none⟩) n gc) ∧ w4.cell? ⟨s, 0, none⟩ = some (.slice lA m lc)) := fun w4 hb => ⟨(hb.cell (p := ⟨s, 2, none⟩) hls).trans HC0.out.1, (hb.cell (p := ⟨s, 0, none⟩) hls).trans HC0.out.2⟩
  clear h hg hr hn
  go_enter Tryd.func33, Tryd.ntmps33
  go_wp2_with fail
  go_region_held3 (fun w' => w'.cell? ⟨s, 2, none⟩ = some (.slice (some ⟨gr, 0, none⟩) n gc) ∧ w'.cell? ⟨s, 0, none⟩ = some (.slice lA m lc))
    (first | exact HC0.out | exact HKP.out _ hb4 | go_keep)
    (first | (go_at_call 62; refine (cut_none n u v lA m lc a b c _ (HW.out.lks.lnk.keep ((Below.refl w.heap.size w).drew)) hm HG.out HMT.out).mono ?_; rintro e w4 ⟨rfl, hb4⟩))
  all_goals
    have HB : Hid (Below w.heap.size w w4) := ((Below.refl w.heap.size w).drew).trans hb4
    clear hb4 HC0 HKP c0 c2
    go_wp2_with fail
    go_ret
    exact ⟨rfl, HB.out⟩

/-- Whichever it is. -/
theorem lineCut_any (s n m u v : Nat) (lo : Nat) (po : Bool) (a b c : Nat → Int) (S : Nat → Nat → Int × Int) (w : World) (hN : NobT w) (h : LineH w lo s po n m a b c (fun i t => (S i t).1) (fun i t => (S i t).2)) (h1 : 1 ≤ n) (h8 : n ≤ 8) (hm : m ≤ 9223372036854775807) (hr : Right n m a b c)
    (hu : u < n) (hv : v < n) (huv : u ≠ v) (hS : ∀ k t, k < n → t < n → 0 ≤ (S k t).1 ∧ (S k t).1 ≤ 16) (hlo : lo ≤ w.heap.size) (hnl : 0 < lo) :
    Calls Tryd.prog 33 #[.pointer (some ⟨s, 0, none⟩), .int .i64 u, .int .i64 v] w fun e w' => ∃ x, e = .returned x ∧ ∃ (m' : Nat) (a' b' c' : Nat → Int) (S' : Nat → Nat → Int × Int), m' ≤ 9223372036854775807 ∧ Right n m' a' b' c' ∧ (∀ k t, k < n → t < n → 0 ≤ (Prod.fst (S' k t)) ∧ (Prod.fst (S' k t)) ≤ (16 : Int)) ∧
      LineH w' lo s po n m' a' b' c' (fun i t => (S' i t).1) (fun i t => (S' i t).2) ∧ Fr lo w w' := by
  by_cases hex : ∃ j, j < m ∧ Mt a b j u v
  · obtain ⟨j, hj, hmt⟩ := hex
    refine (lineCut_ok s n m j u v lo po a b c S w hN h h1 h8 hm hr hj hu hv huv hmt hlo hnl).mono ?_
    rintro e w' ⟨rfl, hL, hF⟩
    exact ⟨_, rfl, m - 1, _, _, _, bothCut u v S, by omega, right_drop hr hj, cut_ranged hS, hL, hF⟩
  · refine (lineCut_none s n m u v lo po a b c _ _ w h h1 h8 hm hr (fun j hj hmt => hex ⟨j, hj, hmt⟩)).mono ?_
    rintro e w' ⟨rfl, hb⟩
    exact ⟨_, rfl, m, a, b, c, S, hm, hr, hS, h.below hb, Fr.of_below hb hlo⟩

end Go.Proofs.YtlbdbfmgkappaaaDoor

/- The reference's line in memory, beside the program's. -/
namespace Go.Proofs.YtlbdbfmgkappaaaDoor
open Go.RowKit
set_option linter.unusedVariables false

/-- A table of n rows of n numbers, told with its blocks' types. -/
def QTab (w : World) (g n : Nat) (F : Nat → Nat → Int) : Prop := ∃ B C : Nat → Nat, RowP w g 23 n (fun r => .slice (some ⟨B r, 0, none⟩) n (C r)) ∧ ∀ r, r < n → RowP w (B r) 3 n fun t => .int .i64 (F r t)

section
variable {w w' : World} {g gm n m : Nat} {F F' : Nat → Nat → Int} {cs : Array Value}
theorem QTab.below (h : QTab w g n F) (hb : Below w.heap.size w w') : QTab w' g n F := by
  obtain ⟨B, C, h1, h2⟩ := h
  exact ⟨B, C, h1.below hb h1.lt, fun r hr => (h2 r hr).below hb (h2 r hr).lt⟩
theorem QTab.keepO (h : QTab w g n F) (k : KeepO w w') : QTab w' g n F := by
  obtain ⟨B, C, h1, h2⟩ := h
  exact ⟨B, C, h1.keepO k (by decide) (by decide), fun r hr => (h2 r hr).keepO k (by decide) (by decide)⟩
theorem QTab.put (h : QTab w g n F) (hm : Blk w gm 65 cs) (i : Nat) (v : Value) : QTab (w.setCell ⟨gm, i, none⟩ v) g n F := by
  obtain ⟨B, C, h1, h2⟩ := h
  exact ⟨B, C, h1.setOther (hm.ne_row h1 (by decide)) _, fun r hr => (h2 r hr).setOther (hm.ne_row (h2 r hr) (by decide)) _⟩
theorem QTab.congr (h : QTab w g n F) (e : ∀ r t, r < n → t < n → F r t = F' r t) : QTab w g n F' := by
  obtain ⟨B, C, h1, h2⟩ := h
  exact ⟨B, C, h1, fun r hr => (h2 r hr).congr fun t ht => by rw [e r t hr ht]⟩
theorem QTab.mat (h : QTab w g n F) : Mat w (some ⟨g, 0, none⟩) n (fun _ => n) F := by
  obtain ⟨B, C, h1, h2⟩ := h
  exact fun r hr => ⟨_, _, C r, rfl, h1.lt, by rw [Addr.add_lit, Nat.zero_add]; exact h1.cell hr, (h2 r hr).vec⟩
theorem QTab.of_at {base c : Nat} {B C : Nat → Nat} (h : TabAt w base (.slice (some ⟨g, 0, none⟩) n c) B C n n F) : QTab w g n F := ⟨B, C, RowP.of_own h.own, fun r hr => (h.row r hr).2⟩
theorem QTab.of_rag {base c : Nat} (h1 : 1 ≤ n) (h : Rag w base (.slice (some ⟨g, 0, none⟩) n c) n (fun _ => n) F) : QTab w g n F := by
  obtain ⟨V, ho, hr⟩ := h
  have hf : ∀ r, ∃ b q, r < n → V r = .slice (some ⟨b, 0, none⟩) n q ∧ RowP w b 3 n fun t => .int .i64 (F r t) := fun r => by
    by_cases hlt : r < n
    · rcases (hr r hlt).form with ⟨h0, -⟩ | ⟨b, q, e, -, -, -, hrow⟩
      · have h0' : n = 0 := h0
        omega
      · exact ⟨b, q, fun _ => ⟨e, hrow⟩⟩
    · exact ⟨0, 0, fun h => absurd h hlt⟩
  refine ⟨fun r => Classical.choose (hf r), fun r => Classical.choose (Classical.choose_spec (hf r)), (RowP.of_own ho).congr fun r hr' => ?_, fun r hr' => ?_⟩
  · exact ((Classical.choose_spec (Classical.choose_spec (hf r))) hr').1
  · exact ((Classical.choose_spec (Classical.choose_spec (hf r))) hr').2
end

/-- Links that came in, or in a block of their own. -/
def LkQ (w1 w : World) (A : Option Addr) (m : Nat) (a b c : Nat → Int) : Prop := Lnk w1 A m a b c ∨ LkB w 0 A m a b c

/-- The reference's line at block gm. -/
def Mod (w1 w : World) (gm n m : Nat) (po : Bool) (a b c : Nat → Int) (S : Nat → Nat → Int × Int) : Prop :=
  ∃ A cp gF fc gN nc, LkQ w1 w A m a b c ∧ Blk w gm 65 #[.slice A m cp, .bool po, .slice (some ⟨gF, 0, none⟩) n fc, .slice (some ⟨gN, 0, none⟩) n nc] ∧ QTab w gF n (fun i t => (S i t).1) ∧ QTab w gN n (fun i t => (S i t).2)

section
variable {w1 w w' : World} {gm n m : Nat} {po : Bool} {a b c : Nat → Int} {A : Option Addr} {S S' : Nat → Nat → Int × Int} {cs : Array Value}
theorem LkQ.lnk (h : LkQ w1 w A m a b c) (hb : Below w1.heap.size w1 w) : Lnk w A m a b c := by
  rcases h with h | h
  · exact h.keep hb
  · exact h.lnk
theorem LkQ.below (h : LkQ w1 w A m a b c) (hb : Below w.heap.size w w') : LkQ w1 w' A m a b c := by
  rcases h with h | (h | ⟨g, e, h1, hr⟩)
  · exact .inl h
  · exact .inr (.inl h)
  · exact .inr (.inr ⟨g, e, h1, hr.below hb hr.lt⟩)
theorem LkQ.keepO (h : LkQ w1 w A m a b c) (k : KeepO w w') : LkQ w1 w' A m a b c := by
  rcases h with h | (h | ⟨g, e, h1, hr⟩)
  · exact .inl h
  · exact .inr (.inl h)
  · exact .inr (.inr ⟨g, e, h1, hr.keepO k (by decide) (by decide)⟩)
theorem LkQ.put (h : LkQ w1 w A m a b c) (hm : Blk w gm 65 cs) (i : Nat) (v : Value) : LkQ w1 (w.setCell ⟨gm, i, none⟩ v) A m a b c := by
  rcases h with h | (h | ⟨g, e, h1, hr⟩)
  · exact .inl h
  · exact .inr (.inl h)
  · exact .inr (.inr ⟨g, e, h1, hr.setOther (hm.ne_row hr (by decide)) _⟩)
theorem LkQ.of_own {base c0 : Nat} (h : OwnLk w base (.slice A m c0) m a b c) : LkQ w1 w A m a b c := by
  rcases h.form with ⟨h0, -⟩ | ⟨g, q, e, -, hr⟩
  · exact .inr (.inl h0)
  · have e' : A = some ⟨g, 0, none⟩ := by
      simp only [Value.slice.injEq] at e
      exact e.1
    exact .inr (.inr ⟨g, e', Nat.zero_le _, hr⟩)
theorem Blk.keepL {g : Nat} {t : TypeId} (h : Blk w g t cs) (k : KeepO w w') (h1 : t ≠ 90) (h2 : t ≠ 94) : Blk w' g t cs :=
  k g _ h (fun cs fr e => by simp at e; exact h1 e.2.1) (fun cs fr e => by simp at e; exact h2 e.2.1)
theorem Mod.below (h : Mod w1 w gm n m po a b c S) (hb : Below w.heap.size w w') : Mod w1 w' gm n m po a b c S := by
  obtain ⟨A, cp, gF, fc, gN, nc, h1, h2, h3, h4⟩ := h
  exact ⟨A, cp, gF, fc, gN, nc, h1.below hb, h2.below hb h2.lt, h3.below hb, h4.below hb⟩
theorem Mod.keepO (h : Mod w1 w gm n m po a b c S) (k : KeepO w w') : Mod w1 w' gm n m po a b c S := by
  obtain ⟨A, cp, gF, fc, gN, nc, h1, h2, h3, h4⟩ := h
  exact ⟨A, cp, gF, fc, gN, nc, h1.keepO k, h2.keepL k (by decide) (by decide), h3.keepO k, h4.keepO k⟩
theorem Mod.congr (h : Mod w1 w gm n m po a b c S) (e : ∀ r t, r < n → t < n → S r t = S' r t) : Mod w1 w gm n m po a b c S' := by
  obtain ⟨A, cp, gF, fc, gN, nc, h1, h2, h3, h4⟩ := h
  exact ⟨A, cp, gF, fc, gN, nc, h1, h2, h3.congr fun r t hr ht => by rw [e r t hr ht], h4.congr fun r t hr ht => by rw [e r t hr ht]⟩
/-- A line's value is stored. -/
theorem Mod.stored {cp gF fc gN nc : Nat} {x0 x1 x2 x3 : Value} (hL : LkQ w1 w A m a b c) (hB : Blk w gm 65 #[x0, x1, x2, x3]) (hF : QTab w gF n (fun i t => (S i t).1)) (hN : QTab w gN n (fun i t => (S i t).2)) :
    Mod w1 ((((w.setCell ⟨gm, 0, none⟩ (.slice A m cp)).setCell ⟨gm, 1, none⟩ (.bool po)).setCell ⟨gm, 2, none⟩ (.slice (some ⟨gF, 0, none⟩) n fc)).setCell ⟨gm, 3, none⟩ (.slice (some ⟨gN, 0, none⟩) n nc)) gm n m po a b c S := by
  have b0 := hB.set_ 0 (.slice A m cp)
  have b1 := b0.set_ 1 (.bool po)
  have b2 := b1.set_ 2 (.slice (some ⟨gF, 0, none⟩) n fc)
  have b3 := b2.set_ 3 (.slice (some ⟨gN, 0, none⟩) n nc)
  refine ⟨A, cp, gF, fc, gN, nc, (((hL.put hB _ _).put b0 _ _).put b1 _ _).put b2 _ _, by simpa using b3, (((hF.put hB _ _).put b0 _ _).put b1 _ _).put b2 _ _, (((hN.put hB _ _).put b0 _ _).put b1 _ _).put b2 _ _⟩
end

/-- What a step makes of what all think. -/
def thinkS (po : Bool) (n : Nat) (K : Nat → Nat → Int) (S : Nat → Nat → Int × Int) (i t : Nat) : Int × Int := thinkF po n t K (fun k => (S k t).1) (fun k => (S k t).2) i
theorem thinkS_ranged {po : Bool} {n : Nat} {K : Nat → Nat → Int} {S : Nat → Nat → Int × Int} (hK : CostM n K) (h : ∀ k t, k < n → t < n → 0 ≤ (S k t).1 ∧ (S k t).1 ≤ 16) : ∀ k t, k < n → t < n → 0 ≤ (thinkS po n K S k t).1 ∧ (thinkS po n K S k t).1 ≤ 16 :=
  fun k t hk ht => think_step.ranged hK (fun q hq => h q t hq ht) k hk
theorem mt_one' {n m : Nat} {a b c : Nat → Int} (hr : Right n m a b c) {i j : Nat} (hi : i < m) (hj : j < m) {u v : Int} (h : Mt a b i u v) (h' : Mt a b j u v) : i = j := by
  have key : ∀ {i j : Nat}, i < m → j < i → Mt a b i u v → Mt a b j u v → False := fun {i j} hi hj h h' => by
    refine (hr i hi).2.2 j hj ?_
    unfold Mt at h h'
    unfold SamePair
    omega
  rcases Nat.lt_trichotomy i j with hlt | e | hlt
  · exact (key hj hlt h' h).elim
  · exact e
  · exact (key hi hlt h h').elim
/-- Both tell the same of a cut. -/
theorem cutQ_both {u v : Nat} (huv : u ≠ v) (S : Nat → Nat → Int × Int) (i t : Nat) : cutQ u v (fun i t => (S i t).1) (fun i t => (S i t).2) i t = bothCut v u S i t := by
  unfold cutQ bothCut rowCut
  by_cases e1 : i = u
  · subst e1
    have e2 : i ≠ v := huv
    by_cases h : (S i t).2 = (v : Int)
    · rw [if_pos (.inl ⟨rfl, h⟩)]
      simp [h, e2]
    · rw [if_neg (fun hh => hh.elim (fun k => h k.2) (fun k => e2 k.1))]
      simp [h, e2]
  · by_cases e2 : i = v
    · subst e2
      by_cases h : (S i t).2 = (u : Int)
      · rw [if_pos (.inr ⟨rfl, h⟩)]
        simp [h, e1]
      · rw [if_neg (fun hh => hh.elim (fun k => e1 k.1) (fun k => h k.2))]
        simp [h, e1]
    · rw [if_neg (fun hh => hh.elim (fun k => e1 k.1) (fun k => e2 k.1))]
      simp [e1, e2]

set_option maxRecDepth 100000 in
set_option maxHeartbeats 1000000 in
theorem lineRow_range (s n m : Nat) (x : Int) (hx : x < 0 ∨ (n : Int) ≤ x) (lo : Nat) (po : Bool) (a b c : Nat → Int) (F G : Nat → Nat → Int) (f : Nat) (w : World) (h : LineH w lo s po n m a b c F G) (h8 : n ≤ 8) :
    Calls Tryd.prog 53 #[.pointer (some ⟨s, 0, none⟩), .int .i64 x, .func (.func f) #[] #[]] w fun e w' => e = .returned (.tuple #[.slice none 0 0, errNo 1]) ∧ w' = w := by
  obtain ⟨lA, lc, gr, gc, B, C, h⟩ := h
  have c2 := h.blk.cell 2
  simp at c2
  clear h
  have h8' : (n : Int) ≤ 8 := by omega
  by_cases h0 : x < 0
  · have d1 : decide (x < 0) = true := decide_eq_true h0
    clear hx
    go_enter Tryd.func53, Tryd.ntmps53
    go_wp2_with fail
    go_ret2
    exact ⟨rfl, rfl⟩
  · have d1 : decide (x < 0) = false := decide_eq_false h0
    have hge : (n : Int) ≤ x := by omega
    have d2 : decide ((n : Int) ≤ x) = true := decide_eq_true hge
    clear hx
    go_enter Tryd.func53, Tryd.ntmps53
    go_wp2_with fail
    go_ret2
    exact ⟨rfl, rfl⟩

set_option maxRecDepth 100000 in
set_option maxHeartbeats 1000000 in
theorem lineRow_bad (s n m : Nat) (x : Int) (hx : x < 0 ∨ (n : Int) ≤ x) (lo : Nat) (po : Bool) (a b c : Nat → Int) (F G : Nat → Nat → Int) (w : World) (h : LineH w lo s po n m a b c F G) (h8 : n ≤ 8) :
    Calls Tryd.prog 15 #[.pointer (some ⟨s, 0, none⟩), .int .i64 x] w fun e w' => e = .returned (.tuple #[.slice none 0 0, errNo 1]) ∧ w' = w := by
  have hcall := lineRow_range s n m x hx lo po a b c F G 54 w h h8
  have HC := Lib.hid hcall
  clear hcall h hx
  go_enter Tryd.func15, Tryd.ntmps15
  go_wp2_with fail
  refine HC.out.mono ?_
  rintro e w1 ⟨rfl, h1⟩
  subst w1
  go_wp2_with fail
  go_ret2
  exact ⟨rfl, rfl⟩
set_option maxRecDepth 100000 in
set_option maxHeartbeats 1000000 in
theorem lineNext_bad (s n m : Nat) (x : Int) (hx : x < 0 ∨ (n : Int) ≤ x) (lo : Nat) (po : Bool) (a b c : Nat → Int) (F G : Nat → Nat → Int) (w : World) (h : LineH w lo s po n m a b c F G) (h8 : n ≤ 8) :
    Calls Tryd.prog 35 #[.pointer (some ⟨s, 0, none⟩), .int .i64 x] w fun e w' => e = .returned (.tuple #[.slice none 0 0, errNo 1]) ∧ w' = w := by
  have hcall := lineRow_range s n m x hx lo po a b c F G 64 w h h8
  have HC := Lib.hid hcall
  clear hcall h hx
  go_enter Tryd.func35, Tryd.ntmps35
  go_wp2_with fail
  refine HC.out.mono ?_
  rintro e w1 ⟨rfl, h1⟩
  subst w1
  go_wp2_with fail
  go_ret2
  exact ⟨rfl, rfl⟩

end Go.Proofs.YtlbdbfmgkappaaaDoor

/- The fact of a line. -/
namespace Go.Proofs.YtlbdbfmgkappaaaDoor
open Go.RowKit
set_option linter.unusedVariables false

theorem start_ranged2 {n : Nat} : ∀ k t, k < n → t < n → 0 ≤ startF t k ∧ startF t k ≤ 16 := fun k t hk _ => startF_ranged t n k hk

theorem NobT.alloc {w : World} (h : NobT w) (o : Obj) : NobT (w.alloc o) := h.keep ((Below.refl _ _).alloc (Nat.le_refl _) o)

set_option maxRecDepth 100000 in
set_option maxHeartbeats 1000000 in
theorem lined_walk (w : World) (hN : NobT w) :
    Calls Tryd.prog 29 #[] w fun e w' => e = .returned (.bool true) ∧ Below w.heap.size w w' := by
  have HN := Lib.hid hN
  clear hN
  go_enter Tryd.func29, Tryd.ntmps29
  go_wp2_with fail
  have hcall := lineNew_ok 2 2 rfl (some ⟨w.heap.size, 0, none⟩) 1 1 true (fun _ => 0) (fun _ => 1) (fun _ => 3) _ (HN.out.alloc _) (lnk_lit w) (by omega) good_lit
  refine hcall.mono ?_
  clear hcall
  rintro e w1 ⟨s, rfl, hL, hb1⟩
  have HL := Lib.hid hL
  have HB1 : Hid (Below w.heap.size w w1) := keepAlloc (Below.refl _ _) hb1
  clear hL hb1
  go_wp2_with fail
  have hcall := lineStep s 2 1 _ true (fun _ => 0) (fun _ => 1) (fun _ => 3) _ _ w1 (HN.out.keep HB1.out) HL.out (by omega) (by omega) (by omega) right_lit start_ranged2 (by have := HB1.out.size; have := HL.out; obtain ⟨_, _, _, _, _, _, h⟩ := this; have := h.blk.lt; have := h.lo; omega)
  refine hcall.mono ?_
  clear hcall
  rintro e w2 ⟨rfl, hL2, hb2⟩
  have HL2 := Lib.hid hL2
  have HB2 : Hid (Below w.heap.size w w2) := HB1.out.trans (hb2.bel.mono (by simp))
  clear hL2 hb2 HB1 HL
  go_wp2_with fail
  have hcall := lineRow_ok s 2 1 0 0 rfl _ true _ _ _ _ _ w2 HL2.out (by omega) (by omega)
  refine hcall.mono ?_
  clear hcall
  rintro e w3 ⟨v, rfl, hV, hb3⟩
  obtain ⟨A3, c3, rfl, hv3⟩ := hV.vec
  have HV3 := Lib.hid hv3
  have HB3 := Lib.hid (keep HB2.out hb3)
  clear hV hv3 hb3 HB2 HL2
  go_wp2_with fail
  have hcall := ints_walk A3 (some ⟨w3.heap.size, 0, none⟩) 2 2 c3 2 _ (fun i => if i = 0 then 0 else 3) _ (HV3.out.keep ((Below.refl _ _).alloc (Nat.le_refl _) (.cells #[.int .i64 0, .int .i64 3] 3)))
    (fun j hj => ⟨_, rfl, (Blk.new w3 3 #[.int .i64 0, .int .i64 3]).lt, by
      rw [Addr.add_lit, (Blk.new w3 3 #[.int .i64 0, .int .i64 3]).cell]
      have h : j = 0 ∨ j = 1 := by omega
      rcases h with rfl | rfl <;> rfl⟩) (by omega) (by omega) true ⟨fun _ => ⟨rfl, fun i hi => by
      have h : i = 0 ∨ i = 1 := by omega
      rcases h with rfl | rfl <;> decide⟩, fun _ => rfl⟩
  refine hcall.mono ?_
  clear hcall
  rintro e w4 ⟨rfl, k4, rfl⟩
  go_wp2_with fail
  go_ret
  exact ⟨rfl, below_drewN (HB3.out.alloc HB3.out.size _) _⟩

end Go.Proofs.YtlbdbfmgkappaaaDoor

/- The walk of the reference's GraphFault. -/
namespace Go.Proofs.YtlbdbfmgkappaaaDoor
open Go.RowKit
set_option linter.unusedVariables false

theorem samePair_iff (a b : Nat → Int) (j : Nat) (u v : Int) : SamePair (a j) (b j) u v ↔ Mt a b j u v := by
  unfold SamePair Mt
  omega

set_option maxRecDepth 100000 in
set_option maxHeartbeats 2000000 in
theorem graphFault_to (n : Nat) (x : Int) (hx : x = (n : Int)) (A : Option Addr) (m cp : Nat) (a b c : Nat → Int) (w : World) (hl : Lnk w A m a b c) (h1 : 1 ≤ n) (h8 : n ≤ 8) (hm : m ≤ 9223372036854775807) (lim : Nat) (hlm : lim ≤ m) (hr : Right n lim a b c) (v : Int)
    (hv : (lim = m ∧ v = 0) ∨ (lim < m ∧ Wrong n lim a b c v)) :
    Calls Tryd.prog 18 #[.int .i64 x, .slice A m cp] w fun e w' => e = .returned (.int .i64 v) ∧ Below w.heap.size w w' := by
  subst hx
  have h1' : (1 : Int) ≤ n := by omega
  have h8' : (n : Int) ≤ 8 := by omega
  have HL := Lib.hid hl
  have HR := Lib.hid hr
  have HV := Lib.hid hv
  clear hl hr hv
  go_enter Tryd.func18, Tryd.ntmps18
  go_wp2_with fail
  go_loopw [5] (fun i wr => ∃ r : Nat, r ≤ lim ∧ i = .int .i64 r ∧ Below w.heap.size w wr) (fun i _ => lim - (intOf i).toNat)
  case atStart => exact ⟨0, by omega, rfl, Below.refl _ _⟩
  case round =>
    obtain ⟨r, hrm, rfl, hb⟩ := hrel
    obtain ⟨wo, hwo⟩ : ∃ wo, wo = wr := ⟨_, rfl⟩
    subst hwo
    by_cases hlt : r < lim
    · have hlt' : (r : Int) < m := by omega
      obtain ⟨ad, rfl, hc0, hc1, hc2⟩ := HL.out.cells hb r (by omega)
      obtain ⟨⟨ha0, ha1, hb0, hb1, hk0, hk1⟩, hne, hnew⟩ := HR.out r hlt
      have hd : (a r == b r) = false := beq_false_of_ne hne
      have HNEW : Hid (∀ j, j < r → ¬ Mt a b j (a r) (b r)) := fun j hj h => hnew j hj ((samePair_iff a b j _ _).2 h)
      have HB := Lib.hid hb
      clear hb hnew hne
      go_wp2_with fail
      go_loopw [7] (fun i wj => ∃ q : Nat, q ≤ r ∧ i = .int .i64 q ∧ ∃ N, wj = (wo.alloc (.cells #[.int .i64 (a r), .int .i64 (b r), .int .i64 (c r)] 31)).drewN N) (fun i _ => r - (intOf i).toNat)
      case atStart => exact ⟨0, by omega, rfl, 0, rfl⟩
      case round =>
        obtain ⟨q, hq, rfl, N, rfl⟩ := hrel
        by_cases hqr : q < r
        · have hqr' : (q : Int) < r := by omega
          have hqm : (q : Int) < m := by omega
          have hbN := (HB.out.alloc HB.out.size (.cells #[.int .i64 (a r), .int .i64 (b r), .int .i64 (c r)] 31))
          obtain ⟨ad', hA', hd0, hd1, hd2⟩ := HL.out.cells hbN q (by omega)
          obtain rfl : ad = ad' := Option.some.inj hA'
          have hmt := HNEW.out q hqr
          clear hA' hbN hd2
          by_cases e1 : a q = a r
          · have e2 : b q ≠ b r := fun e => hmt (.inl ⟨e1, e⟩)
            rw [e1] at hd0
            have hd3 : (b q == b r) = false := beq_false_of_ne e2
            clear e1 e2 hmt
            go_wp2_with fail
            go_quiet (fail)
            go_wp2_with fail
            go_roundw
            case rel => exact ⟨q + 1, by omega, by go_num, _, rfl⟩
            case measure => simp [intOf]; omega
          · have hd1' : (a q == a r) = false := beq_false_of_ne e1
            by_cases e3 : a q = b r
            · have e2 : b q ≠ a r := fun e => hmt (.inr ⟨e3, e⟩)
              have hd3 : (b q == a r) = false := beq_false_of_ne e2
              rw [e3] at hd0 hd1'
              clear e1 e2 e3 hmt
              go_wp2_with fail
              go_quiet (fail)
              go_wp2_with fail
              go_roundw
              case rel => exact ⟨q + 1, by omega, by go_num, _, rfl⟩
              case measure => simp [intOf]; omega
            · have hd3 : (a q == b r) = false := beq_false_of_ne e3
              clear e1 e3 hmt
              go_wp2_with fail
              go_quiet (fail)
              go_wp2_with fail
              go_roundw
              case rel => exact ⟨q + 1, by omega, by go_num, _, rfl⟩
              case measure => simp [intOf]; omega
        · obtain rfl : q = r := by omega
          have HB1 : Hid (Below w.heap.size w ((wo.alloc (.cells #[.int .i64 (a q), .int .i64 (b q), .int .i64 (c q)] 31)).drewN N)) := below_drewN (HB.out.alloc HB.out.size _) N
          go_wp2_with fail
          go_roundw
          case rel => exact ⟨q + 1, by omega, by go_num, HB1.out⟩
          case measure => simp [intOf]; omega
    · have er : r = lim := by omega
      subst er
      rcases HV.out with ⟨e1, rfl⟩ | ⟨hlm', hw⟩
      · subst e1
        go_wp2_with fail
        go_ret
        exact ⟨rfl, hb⟩
      · have hlt' : (r : Int) < m := by omega
        obtain ⟨ad, rfl, hc0, hc1, hc2⟩ := HL.out.cells hb r hlm'
        have HB := Lib.hid hb
        rcases hw with ⟨hbad, rfl⟩ | ⟨⟨ha0, ha1, hb0, hb1, hk0, hk1⟩, he, rfl⟩ | ⟨⟨ha0, ha1, hb0, hb1, hk0, hk1⟩, hne, hold, rfl⟩
        · have hbelow : Hid (Below w.heap.size w (wo.alloc (.cells #[.int .i64 (a r), .int .i64 (b r), .int .i64 (c r)] 31))) := HB.out.alloc HB.out.size _
          clear hb
          by_cases h1 : 0 ≤ a r
          · by_cases h2 : a r < n
            · by_cases h3 : 0 ≤ b r
              · by_cases h4 : b r < n
                · by_cases h5 : 1 ≤ c r
                  · have h6 : 15 < c r := by
                      rcases Int.lt_or_le 15 (c r) with h | h
                      · exact h
                      · exact absurd ⟨h1, h2, h3, h4, h5, h⟩ hbad
                    clear hbad
                    go_wp2_with fail
                    go_ret
                    exact ⟨rfl, hbelow.out⟩
                  · clear hbad
                    have h5' : c r < 1 := by omega
                    go_wp2_with fail
                    go_ret
                    exact ⟨rfl, hbelow.out⟩
                · clear hbad
                  have h4' : (n : Int) ≤ b r := by omega
                  go_wp2_with fail
                  go_ret
                  exact ⟨rfl, hbelow.out⟩
              · clear hbad
                have h3' : b r < 0 := by omega
                go_wp2_with fail
                go_ret
                exact ⟨rfl, hbelow.out⟩
            · clear hbad
              have h2' : (n : Int) ≤ a r := by omega
              go_wp2_with fail
              go_ret
              exact ⟨rfl, hbelow.out⟩
          · clear hbad
            have h1'' : a r < 0 := by omega
            go_wp2_with fail
            go_ret
            exact ⟨rfl, hbelow.out⟩
        · have hbelow : Hid (Below w.heap.size w (wo.alloc (.cells #[.int .i64 (a r), .int .i64 (a r), .int .i64 (c r)] 31))) := HB.out.alloc HB.out.size _
          rw [← he] at hc1
          clear hb he hb0 hb1
          go_wp2_with fail
          go_ret
          exact ⟨rfl, hbelow.out⟩
        · have hd : (a r == b r) = false := beq_false_of_ne hne
          have HOLD : Hid (∃ j, j < r ∧ Mt a b j (a r) (b r)) := by
            obtain ⟨j, hj, h⟩ := hold
            exact ⟨j, hj, (samePair_iff a b j _ _).1 h⟩
          clear hb hne hold
          go_wp2_with fail
          go_loopw [7] (fun i wj => ∃ q : Nat, q ≤ r ∧ i = .int .i64 q ∧ Hid (∀ j, j < q → ¬ Mt a b j (a r) (b r)) ∧ ∃ N, wj = (wo.alloc (.cells #[.int .i64 (a r), .int .i64 (b r), .int .i64 (c r)] 31)).drewN N) (fun i _ => r - (intOf i).toNat)
          case atStart => exact ⟨0, by omega, rfl, Lib.hid (fun j hj => absurd hj (by omega)), 0, rfl⟩
          case round =>
            obtain ⟨q, hq, rfl, hno, N, rfl⟩ := hrel
            have HNO := hno
            clear hno
            by_cases hqr : q < r
            · have hqr' : (q : Int) < r := by omega
              have hqm : (q : Int) < m := by omega
              have hbN := (HB.out.alloc HB.out.size (.cells #[.int .i64 (a r), .int .i64 (b r), .int .i64 (c r)] 31))
              obtain ⟨ad', hA', hd0, hd1, hd2⟩ := HL.out.cells hbN q (by omega)
              obtain rfl : ad = ad' := Option.some.inj hA'
              clear hA' hd2
              have HBE : Hid (∀ K, Below w.heap.size w ((wo.alloc (.cells #[.int .i64 (a r), .int .i64 (b r), .int .i64 (c r)] 31)).drewN K)) := fun K => below_drewN hbN K
              clear hbN
              by_cases hmt : Mt a b q (a r) (b r)
              · by_cases hfst : a q = a r ∧ b q = b r
                · obtain ⟨e1, e2⟩ := hfst
                  rw [e1] at hd0
                  rw [e2] at hd1
                  clear e1 e2 hmt
                  go_wp2_with fail
                  go_quiet (fail)
                  go_wp2_with fail
                  go_ret
                  exact ⟨rfl, by rw [World.drewN_drewN]; exact HBE.out _⟩
                · have hsnd : a q = b r ∧ b q = a r := hmt.resolve_left hfst
                  obtain ⟨e1, e2⟩ := hsnd
                  have hd3 : (b r == a r) = false := beq_false_of_ne fun e => hfst ⟨by omega, by omega⟩
                  rw [e1] at hd0
                  rw [e2] at hd1
                  clear e1 e2 hmt hfst
                  go_wp2_with fail
                  go_quiet (fail)
                  go_wp2_with fail
                  go_ret
                  exact ⟨rfl, by rw [World.drewN_drewN]; exact HBE.out _⟩
              · have HN1 : Hid (∀ j, j < q + 1 → ¬ Mt a b j (a r) (b r)) := fun j hj => by
                  rcases Nat.lt_or_ge j q with h | h
                  · exact HNO.out j h
                  · obtain rfl : j = q := by omega
                    exact hmt
                by_cases e1 : a q = a r
                · have e2 : b q ≠ b r := fun e => hmt (.inl ⟨e1, e⟩)
                  rw [e1] at hd0
                  have hd3 : (b q == b r) = false := beq_false_of_ne e2
                  clear e1 e2 hmt
                  go_wp2_with fail
                  go_quiet (fail)
                  go_wp2_with fail
                  go_roundw
                  case rel => exact ⟨q + 1, by omega, by go_num, HN1, _, rfl⟩
                  case measure => simp [intOf]; omega
                · have hd1' : (a q == a r) = false := beq_false_of_ne e1
                  by_cases e3 : a q = b r
                  · have e2 : b q ≠ a r := fun e => hmt (.inr ⟨e3, e⟩)
                    have hd3 : (b q == a r) = false := beq_false_of_ne e2
                    rw [e3] at hd0 hd1'
                    clear e1 e2 e3 hmt
                    go_wp2_with fail
                    go_quiet (fail)
                    go_wp2_with fail
                    go_roundw
                    case rel => exact ⟨q + 1, by omega, by go_num, HN1, _, rfl⟩
                    case measure => simp [intOf]; omega
                  · have hd3 : (a q == b r) = false := beq_false_of_ne e3
                    clear e1 e3 hmt
                    go_wp2_with fail
                    go_quiet (fail)
                    go_wp2_with fail
                    go_roundw
                    case rel => exact ⟨q + 1, by omega, by go_num, HN1, _, rfl⟩
                    case measure => simp [intOf]; omega
            · exfalso
              obtain ⟨j, hj, h⟩ := HOLD.out
              exact HNO.out j (by omega) h

theorem graphFault_good (x : Int) (A : Option Addr) (m cp : Nat) (a b c : Nat → Int) (w : World) (hl : Lnk w A m a b c) (hm : m ≤ 9223372036854775807) (h : GoodG x m a b c) :
    Calls Tryd.prog 18 #[.int .i64 x, .slice A m cp] w fun e w' => e = .returned (.int .i64 0) ∧ Below w.heap.size w w' := by
  obtain ⟨h1, h8, hr⟩ := h
  exact graphFault_to x.toNat x (by omega) A m cp a b c w hl (by omega) (by omega) hm m (Nat.le_refl _) hr _ (.inl ⟨rfl, rfl⟩)

set_option maxRecDepth 100000 in
set_option maxHeartbeats 1000000 in
theorem graphFault_size (x : Int) (A : Option Addr) (m c : Nat) (w : World) (hx : x < 1 ∨ 8 < x) :
    Calls Tryd.prog 18 #[.int .i64 x, .slice A m c] w fun e w' => e = .returned (.int .i64 1) ∧ Below w.heap.size w w' := by
  rcases hx with hx | hx
  · go_enter Tryd.func18, Tryd.ntmps18
    go_wp2_with fail
    go_ret
    exact ⟨rfl, Below.refl _ _⟩
  · go_enter Tryd.func18, Tryd.ntmps18
    go_wp2_with fail
    go_ret
    exact ⟨rfl, Below.refl _ _⟩

theorem graphFault_bad (x : Int) (A : Option Addr) (m cp : Nat) (a b c : Nat → Int) (w : World) (hl : Lnk w A m a b c) (hm : m ≤ 9223372036854775807) (k : Int) (h : FaultG x m a b c k) :
    Calls Tryd.prog 18 #[.int .i64 x, .slice A m cp] w fun e w' => e = .returned (.int .i64 k) ∧ Below w.heap.size w w' := by
  rcases h with ⟨h, rfl⟩ | ⟨h1, h8, i, hi, hr, hw⟩
  · exact graphFault_size x A m cp w h
  · exact graphFault_to x.toNat x (by omega) A m cp a b c w hl (by omega) (by omega) hm i (by omega) hr _ (.inr ⟨hi, hw⟩)

end Go.Proofs.YtlbdbfmgkappaaaDoor

/- LineTells: the program's line tells what the reference's line tells, whatever is done. For all arguments; no condition. -/
namespace Go.Proofs.YtlbdbfmgkappaaaDoor
open Go.RowKit
set_option linter.unusedVariables false

theorem LineH.lo_lt' {w : World} {lo s : Nat} {po : Bool} {n m : Nat} {a b c : Nat → Int} {F G : Nat → Nat → Int} (h : LineH w lo s po n m a b c F G) : lo ≤ w.heap.size := by
  obtain ⟨_, _, _, _, _, _, h⟩ := h
  have := h.blk.lt
  have := h.lo
  omega

section
variable {w : World} {lo s gm n m : Nat} {po : Bool} {a b c : Nat → Int} {F G : Nat → Nat → Int} {cs : Array Value}
theorem LineH.put (h : LineH w lo s po n m a b c F G) (hm : Blk w gm 65 cs) (i : Nat) (v : Value) : LineH (w.setCell ⟨gm, i, none⟩ v) lo s po n m a b c F G := by
  obtain ⟨lA, lc, gr, gc, B, C, h⟩ := h
  have hne : s ≠ gm := by
    rintro rfl
    have h1 := h.blk
    unfold Blk at h1 hm
    rw [hm] at h1
    simp at h1
  refine ⟨lA, lc, gr, gc, B, C, h.blk.far (by show s ≠ gm; exact hne) _, ?_, ⟨?_, fun r hr => ⟨(h.tht.row r hr).1, (h.tht.row r hr).2.setOther (hm.ne_row (h.tht.row r hr).2 (by decide)) _⟩, h.tht.inj⟩, h.lo⟩
  · rcases h.lks with e | ⟨g, e, h1, hr⟩
    · exact .inl e
    · exact .inr ⟨g, e, h1, hr.setOther (hm.ne_row hr (by decide)) _⟩
  · refine ⟨h.tht.own.1, ?_⟩
    rcases h.tht.own.2 with h' | ⟨g, cap, cur, hv, hb, hg, hr⟩
    · exact .inl h'
    · refine .inr ⟨g, cap, cur, hv, hb, (Below.heap_setCell _ _ _ _ ?_).trans hg, hr⟩
      show g ≠ gm
      rintro rfl
      unfold Blk at hm
      rw [hm] at hg
      simp at hg
theorem LineH.put4 (h : LineH w lo s po n m a b c F G) (hm : Blk w gm 65 cs) (v0 v1 v2 v3 : Value) :
    LineH ((((w.setCell ⟨gm, 0, none⟩ v0).setCell ⟨gm, 1, none⟩ v1).setCell ⟨gm, 2, none⟩ v2).setCell ⟨gm, 3, none⟩ v3) lo s po n m a b c F G :=
  (((h.put hm 0 v0).put (hm.set_ 0 v0) 1 v1).put ((hm.set_ 0 v0).set_ 1 v1) 2 v2).put (((hm.set_ 0 v0).set_ 1 v1).set_ 2 v2) 3 v3
end

/-- Both lines, and what all think. -/
structure Twin (w1 w : World) (s gm n m : Nat) (po : Bool) (a b c : Nat → Int) (S : Nat → Nat → Int × Int) : Prop where
  small : m ≤ 1000000
  right : Right n m a b c
  rng : ∀ k t, k < n → t < n → 0 ≤ (S k t).1 ∧ (S k t).1 ≤ 16
  line : LineH w w1.heap.size s po n m a b c (fun i t => (S i t).1) (fun i t => (S i t).2)
  mod : Mod w1 w gm n m po a b c S
  bel : Below w1.heap.size w1 w
theorem Twin.below {w1 w w' : World} {s gm n m : Nat} {po : Bool} {a b c : Nat → Int} {S : Nat → Nat → Int × Int} (h : Twin w1 w s gm n m po a b c S) (hb : Below w.heap.size w w') : Twin w1 w' s gm n m po a b c S :=
  ⟨h.small, h.right, h.rng, h.line.below hb, h.mod.below hb, keep h.bel hb⟩

set_option maxRecDepth 100000 in
set_option maxHeartbeats 8000000 in
theorem lineTells_walk (x : Int) (A : Option Addr) (m cp : Nat) (a b c : Nat → Int) (po : Bool) (P : Option Addr) (nk ck : Nat) (fk : Nat → Int) (w : World) (hET : ErrT w) (hN : NobT w) (hl : Lnk w A m a b c) (hm : m ≤ 9223372036854775807) (hP : Vec w P nk fk) (hnk : nk ≤ 9223372036854775807) :
    Calls Tryd.prog 5 #[.int .i64 x, .slice A m cp, .bool po, .slice P nk ck] w fun e w' => e = .returned (.bool true) ∧ Below w.heap.size w w' := by
  have HL := Lib.hid hl
  have HN := Lib.hid hN
  have HE := Lib.hid hET
  have HP := Lib.hid hP
  clear hl hN hET hP
  go_enter Tryd.func5, Tryd.ntmps5
  go_wp2_with fail
  refine (lined_walk w HN.out).mono ?_
  rintro e w1 ⟨rfl, hb1⟩
  have HB1 := Lib.hid hb1
  clear hb1
  go_wp2_with fail
  rcases graph_cases x m a b c with hg | ⟨v, hv, hf⟩
  · obtain ⟨n, rfl, hn1, hn8, hr⟩ := good_nat hg
    have hn8' : (n : Int) ≤ 8 := by omega
    have hn1' : (1 : Int) ≤ n := by omega
    have hm64 := right_small hr hn8
    have HG := Lib.hid hg
    have HR := Lib.hid hr
    clear hg hr
    have hcall := lineNew_ok n n rfl A m cp po a b c w1 (HN.out.keep HB1.out) (HL.out.keep HB1.out) hm HG.out
    refine hcall.mono ?_
    clear hcall
    rintro e w2 ⟨s, rfl, hL, hb2⟩
    have HL2 := Lib.hid hL
    have HB2 := Lib.hid hb2
    clear hL hb2
    go_wp2_with fail
    have hcall := graphFault_good n A m cp a b c w2 ((HL.out.keep HB1.out).keep HB2.out) hm HG.out
    refine hcall.mono ?_
    clear hcall
    rintro e w3 ⟨rfl, hb3⟩
    have HL3 := Lib.hid (HL2.out.below hb3)
    have HB3 := Lib.hid (keep HB2.out hb3)
    clear hb3 HB2 HL2
    go_wp2_with fail
    refine (err_nil 0 true ⟨fun _ => rfl, fun _ => rfl⟩ w3).mono ?_
    rintro e w4 ⟨rfl, hb4⟩
    have HL4 := Lib.hid (HL3.out.below hb4)
    have HB4 := Lib.hid (keep HB3.out hb4)
    clear hb4 HB3 HL3
    go_wp2_with fail
    have hcall := newLine_walk n n rfl A m cp po w4 hn1 hn8
    refine hcall.mono ?_
    clear hcall
    rintro e w5 ⟨vF, vN, mid, gF, BF, CF, BN, CN, rfl, hAp, hb5⟩
    obtain ⟨gF', cF, e1, -, -, -, -⟩ := hAp.one.cells hn1
    obtain ⟨gN', cN, e2, -, -, -, -⟩ := hAp.two.cells hn1
    subst e1
    subst e2
    have HQF := Lib.hid (QTab.of_at hAp.one)
    have HQN := Lib.hid (QTab.of_at hAp.two)
    have HL5 := Lib.hid (HL4.out.below hb5)
    have HB5 := Lib.hid (keep HB4.out hb5)
    clear hAp hb5 HB4 HL4
    have hTW : Twin w1 (w5.alloc (.cells #[.slice A m cp, .bool po, .slice (some ⟨gF', 0, none⟩) n cF, .slice (some ⟨gN', 0, none⟩) n cN] 65)) s w5.heap.size n m po a b c (fun i t => (startF t i, -1)) := by
      have hb : Below w5.heap.size w5 (w5.alloc (.cells #[.slice A m cp, .bool po, .slice (some ⟨gF', 0, none⟩) n cF, .slice (some ⟨gN', 0, none⟩) n cN] 65)) := (Below.refl _ _).alloc (Nat.le_refl _) _
      refine ⟨by omega, HR.out, fun k t hk ht => startF_ranged t n k hk, HL5.out.below hb, ⟨A, cp, gF', cF, gN', cN, .inl (HL.out.keep HB1.out), Blk.new _ _ _, (HQF.out.below hb).congr fun r t hr ht => ?_, HQN.out.below hb⟩, keep HB5.out hb⟩
      show oneF r t = startF t r
      unfold oneF startF
      rfl
    have hgm : w1.heap.size ≤ w5.heap.size := HB5.out.size
    have HTW := Lib.hid hTW
    have HGM := Lib.hid hgm
    clear hTW hgm HQF HQN HL5 HB5
    go_wp2_with fail
    obtain ⟨gm, hgm⟩ : ∃ gm, w5.heap.size = gm := ⟨_, rfl⟩
    rw [hgm] at HTW HGM ⊢
    clear hgm
    go_loopw [15] (fun q wr => ∃ k : Nat, k ≤ nk ∧ q = .int .i64 k ∧ ∃ m' a' b' c' S, Twin w1 wr s gm n m' po a' b' c' S) (fun q _ => nk - (intOf q).toNat)
    case atStart => exact ⟨0, by omega, rfl, m, a, b, c, _, HTW.out⟩
    case round =>
      obtain ⟨k, hk, rfl, m', a', b', c', S, hT⟩ := hrel
      have HT := Lib.hid hT
      clear hT HTW
      have hW : Below w.heap.size w wr := keep HB1.out HT.out.bel
      have HW := Lib.hid hW
      clear hW
      by_cases hkn : k < nk
      · have hkn' : (k : Int) < nk := by omega
        obtain ⟨adp, rfl, -, cz⟩ := HP.out.keep HW.out k hkn
        obtain ⟨z, hz⟩ : ∃ z, fk k = z := ⟨_, rfl⟩
        rw [hz] at cz
        clear hz
        obtain ⟨bb, hbb⟩ : ∃ bb, decide (z < 0 ∨ (m : Int) ≤ z) = bb := ⟨_, rfl⟩
        have HBB := Lib.hid hbb
        clear hbb
        go_upto_region 13 with (fail)
        go_cut [86] (fun q wx => wx = wr ∧ q = .bool bb)
        case first =>
          rcases (show z < 0 ∨ (¬ z < 0 ∧ (m : Int) ≤ z) ∨ (¬ z < 0 ∧ ¬ (m : Int) ≤ z) by omega) with hr | ⟨hr1, hr⟩ | ⟨hr1, hr⟩
          · have HV : Hid (true = bb) := by rw [← HBB.out]; exact (decide_eq_true (.inl hr)).symm
            go_wp2_with fail
            go_meet
            exact ⟨rfl, by rw [← HV.out]⟩
          · have HV : Hid (true = bb) := by rw [← HBB.out]; exact (decide_eq_true (.inr hr)).symm
            go_wp2_with fail
            go_meet
            exact ⟨rfl, by rw [← HV.out]⟩
          · have HV : Hid (false = bb) := by rw [← HBB.out]; exact (decide_eq_false (by omega)).symm
            go_wp2_with fail
            go_meet
            exact ⟨rfl, by rw [← HV.out]⟩
        case rest =>
          obtain ⟨hwc, rfl⟩ := hcut
          subst wc
          go_upto_if 86 with (fail)
          go_cut [12] (fun q wx => ∃ m' a' b' c' S, Twin w1 wx s gm n m' po a' b' c' S)
          case first =>
            cases bb with
            | true =>
              clear HBB cz
              have hcall := lineStep s n m' _ po a' b' c' _ _ wr (HN.out.keep HW.out) HT.out.line hn1 hn8 (by have := HT.out.small; omega) HT.out.right HT.out.rng HT.out.bel.size
              have HC := Lib.hid hcall
              clear hcall
              go_wp2_with fail
              refine HC.out.mono ?_
              rintro e w6 ⟨rfl, hL6, hF6⟩
              obtain ⟨A6, cp6, gF6, fc6, gN6, nc6, hk6, hb6, hf6, hg6⟩ := HT.out.mod.keepO hF6.keep
              have hbl6 : Below w1.heap.size w1 w6 := HT.out.bel.trans hF6.bel
              have k0 := hb6.cell 0
              have k1 := hb6.cell 1
              have k2 := hb6.cell 2
              have k3 := hb6.cell 3
              simp at k0 k1 k2 k3
              have hcall := stepped_q n A6 (some ⟨gF6, 0, none⟩) (some ⟨gN6, 0, none⟩) m' cp6 fc6 nc6 a' b' c' po _ _ w6 (hk6.lnk hbl6) (by have := HT.out.small; omega) HT.out.right hf6.mat hg6.mat hn1 hn8 HT.out.rng
              have HC2 := Lib.hid hcall
              have HL6 : Hid (LineH w6 w1.heap.size s po n m' a' b' c' (fun i t => (thinkS po n (costF m' a' b' c') S i t).1) (fun i t => (thinkS po n (costF m' a' b' c') S i t).2)) := hL6
              have HK6 := Lib.hid hk6
              have HM6 := Lib.hid hb6
              have HB6 := Lib.hid hbl6
              clear hL6 hF6 hk6 hb6 hf6 hg6 hbl6 hcall HC
              go_wp2_with fail
              refine HC2.out.mono ?_
              rintro e w7 ⟨vF, vN, b0, mid, gF0, BF, CF, BN, CN, rfl, -, hAp, hb7⟩
              obtain ⟨gF7, cF7, e1, -, -, -, -⟩ := hAp.one.cells hn1
              obtain ⟨gN7, cN7, e2, -, -, -, -⟩ := hAp.two.cells hn1
              subst e1
              subst e2
              have hm7 := HM6.out.below hb7 HM6.out.lt
              have HMOD : Hid (Mod w1 ((((w7.setCell ⟨gm, 0, none⟩ (.slice A6 m' cp6)).setCell ⟨gm, 1, none⟩ (.bool po)).setCell ⟨gm, 2, none⟩ (.slice (some ⟨gF7, 0, none⟩) n cF7)).setCell ⟨gm, 3, none⟩ (.slice (some ⟨gN7, 0, none⟩) n cN7)) gm n m' po a' b' c' (thinkS po n (costF m' a' b' c') S)) :=
                Mod.stored (HK6.out.below hb7) hm7 (QTab.of_at hAp.one) (QTab.of_at hAp.two)
              have HL7 := Lib.hid (HL6.out.below hb7)
              have HB7 := Lib.hid (keep HB6.out hb7)
              have q0 := hm7.cell 0
              have q1 := hm7.cell 1
              have q2 := hm7.cell 2
              have q3 := hm7.cell 3
              have r0 := hm7.frozen 0
              have r1 := hm7.frozen 1
              have r2 := hm7.frozen 2
              have r3 := hm7.frozen 3
              simp at q0 q1 q2 q3
              have HM7 := Lib.hid hm7
              clear hAp hb7 hm7 HL6 HB6 HK6 HM6 HC2 k0 k1 k2 k3
              go_wp2_with fail
              go_meet
              refine ⟨m', a', b', c', thinkS po n (costF m' a' b' c') S, HT.out.small, HT.out.right, thinkS_ranged (cost_m HT.out.right) HT.out.rng, HL7.out.put4 HM7.out _ _ _ _, HMOD.out, ?_⟩
              · exact (((HB7.out.setCell HGM.out _).setCell HGM.out _).setCell HGM.out _).setCell HGM.out _
            | false =>
              have hzr : 0 ≤ z ∧ z < m := by
                have := of_decide_eq_false HBB.out
                omega
              obtain ⟨j, rfl⟩ : ∃ j : Nat, z = j := ⟨z.toNat, by omega⟩
              have hj : j < m := by omega
              have hj' : (j : Int) < m := by omega
              clear hzr HBB
              obtain ⟨ad, rfl, y0, y1, y2⟩ := Lnk.cells HL.out HW.out j hj
              obtain ⟨ru, rv, ruv, rc0, rc1, eu, ev⟩ := right_nat HR.out hj
              obtain ⟨u, hu⟩ : ∃ u, nA a j = u := ⟨_, rfl⟩
              obtain ⟨v, hv⟩ : ∃ v, nA b j = v := ⟨_, rfl⟩
              rw [hu] at ru ruv eu
              rw [hv] at rv ruv ev
              rw [eu] at y0
              rw [ev] at y1
              clear hu hv rc0 rc1
              obtain ⟨A6, cp6, gF6, fc6, gN6, nc6, hk6, hb6, hf6, hg6⟩ := HT.out.mod
              have k0 := hb6.cell 0
              simp at k0
              have hgml := hb6.lt
              have HK6 := Lib.hid hk6
              have HM6 := Lib.hid hb6
              have HF6 := Lib.hid hf6
              have HG6 := Lib.hid hg6
              clear hk6 hb6 hf6 hg6 eu ev
              rcases Classical.em (∃ jj, jj < m' ∧ Mt a' b' jj u v) with ⟨jj, hjj, hmt⟩ | hno
              · have hed : Edge m' a' b' c' u v (c' jj) := ⟨jj, hjj, rfl, (Mt.edge HT.out.right hjj).1 hmt⟩
                have hcv : costV m' a' b' c' u v = c' jj := costV_edge HT.out.right hed
                obtain ⟨-, -, -, q0, q1⟩ := hed.ok HT.out.right
                obtain ⟨cj, hcj⟩ : ∃ cj, c' jj = cj := ⟨_, rfl⟩
                rw [hcj] at hcv q0 q1
                have hlt16 : cj < 16 := by omega
                have d16 : decide (cj < 16) = true := decide_eq_true hlt16
                have HCV := Lib.hid hcv
                have HMT := Lib.hid hmt
                clear hed hcv hcj hmt q0 q1
                go_wp2_with fail
                have hba : Below wr.heap.size wr (wr.alloc (.cells #[.int .i64 u, .int .i64 v, .int .i64 (c j)] 31)) := (Below.refl _ _).alloc (Nat.le_refl _) _
                have hxb : Blk (wr.alloc (.cells #[.int .i64 u, .int .i64 v, .int .i64 (c j)] 31)) wr.heap.size 31 #[.int .i64 u, .int .i64 v, .int .i64 (c j)] := Blk.new _ _ _
                obtain ⟨wa, hwa⟩ : ∃ wa, wr.alloc (.cells #[.int .i64 u, .int .i64 v, .int .i64 (c j)] 31) = wa := ⟨_, rfl⟩
                rw [hwa] at hba hxb ⊢
                obtain ⟨px, hpx⟩ : ∃ px, wr.heap.size = px := ⟨_, rfl⟩
                rw [hpx] at hxb ⊢
                have HTA := Lib.hid (HT.out.below hba)
                have HKA := Lib.hid (HK6.out.below hba)
                have HMA := Lib.hid (HM6.out.below hba HM6.out.lt)
                have HFA := Lib.hid (HF6.out.below hba)
                have HGA := Lib.hid (HG6.out.below hba)
                have HXB := Lib.hid hxb
                have HWA : Hid (Below w.heap.size w wa) := keep HW.out hba
                have x0 := hxb.cell 0
                have x1 := hxb.cell 1
                simp at x0 x1
                clear hba hxb hwa hpx HK6 HM6 HF6 HG6 HT HW k0 y0 y1 y2
                have hcall := costOf_walk A6 m' cp6 a' b' c' u v wa (HKA.out.lnk HTA.out.bel) (by have := HTA.out.small; omega) cj HCV.out
                refine hcall.mono ?_
                clear hcall
                rintro e w7 ⟨rfl, h7⟩
                subst w7
                go_wp2_with fail
                have hcall := lineCut_ok s n m' jj v u w1.heap.size po a' b' c' S wa (HN.out.keep HWA.out) HTA.out.line hn1 hn8 (by have := HTA.out.small; omega) HTA.out.right hjj rv ru (Ne.symm ruv) HMT.out.symm HTA.out.bel.size (Nat.lt_of_lt_of_le (World.block_lt_of_cell? w _ HN.out.1) HB1.out.size)
                refine hcall.mono ?_
                clear hcall
                rintro e w8 ⟨rfl, hL8, hF8⟩
                have HL8 := Lib.hid hL8
                have HK8 := Lib.hid (HKA.out.keepO hF8.keep)
                have HM8 := Lib.hid (HMA.out.keepL hF8.keep (by decide) (by decide))
                have HF8 := Lib.hid (HFA.out.keepO hF8.keep)
                have HG8 := Lib.hid (HGA.out.keepO hF8.keep)
                have HX8 := Lib.hid (HXB.out.keepL hF8.keep (by decide) (by decide))
                have HB8 : Hid (Below w1.heap.size w1 w8) := HTA.out.bel.trans hF8.bel
                have HRT := Lib.hid HTA.out.right
                have HSM := Lib.hid HTA.out.small
                have HRG := Lib.hid HTA.out.rng
                clear hL8 hF8 HTA HKA HMA HFA HGA HXB HWA x0 x1
                go_wp2_with fail
                refine (err_nil 0 true ⟨fun _ => rfl, fun _ => rfl⟩ w8).mono ?_
                rintro e w9 ⟨rfl, hb9⟩
                have HL9 := Lib.hid (HL8.out.below hb9)
                have HK9 := Lib.hid (HK8.out.below hb9)
                have HM9 := Lib.hid (HM8.out.below hb9 HM8.out.lt)
                have HF9 := Lib.hid (HF8.out.below hb9)
                have HG9 := Lib.hid (HG8.out.below hb9)
                have hx9 := HX8.out.below hb9 HX8.out.lt
                have HB9 := Lib.hid (keep HB8.out hb9)
                have x0 := hx9.cell 0
                have x1 := hx9.cell 1
                have k0 := HM9.out.cell 0
                have k1 := HM9.out.cell 1
                have k2 := HM9.out.cell 2
                have k3 := HM9.out.cell 3
                simp at x0 x1 k0 k1 k2 k3
                clear hb9 hx9 HL8 HK8 HM8 HF8 HG8 HX8 HB8
                go_wp2_with fail
                have hcall := cutLine_q n A6 (some ⟨gF6, 0, none⟩) (some ⟨gN6, 0, none⟩) m' cp6 fc6 nc6 u v jj a' b' c' po _ _ w9 (HK9.out.lnk HB9.out) (by have := HSM.out; omega) (fun i hi => ⟨fun h => mt_one' HRT.out hi hjj h HMT.out, fun h => by rw [h]; exact HMT.out⟩) HF9.out.mat HG9.out.mat hn1 hn8 ruv
                refine hcall.mono ?_
                clear hcall
                rintro e w10 ⟨zz, vF, vN, rfl, hO, hRF, hRN, hb10⟩
                obtain ⟨zA, zc, e0⟩ := hO.slice_
                obtain ⟨gF7, cF7, e1, -, -⟩ := hRF.form hn1
                obtain ⟨gN7, cN7, e2, -, -⟩ := hRN.form hn1
                subst e0
                subst e1
                subst e2
                have hm7 := HM9.out.below hb10 HM9.out.lt
                have hln : leftN jj m' = m' - 1 := by unfold leftN; rw [if_neg (by omega)]
                have HMOD : Hid (Mod w1 ((((w10.setCell ⟨gm, 0, none⟩ (.slice zA (leftN jj m') zc)).setCell ⟨gm, 1, none⟩ (.bool po)).setCell ⟨gm, 2, none⟩ (.slice (some ⟨gF7, 0, none⟩) n cF7)).setCell ⟨gm, 3, none⟩ (.slice (some ⟨gN7, 0, none⟩) n cN7)) gm n (leftN jj m') po (dropF jj a') (dropF jj b') (dropF jj c') (bothCut v u S)) :=
                  Mod.stored (LkQ.of_own hO) hm7 ((QTab.of_rag hn1 hRF).congr fun r t _ _ => by rw [cutQ_both ruv]) ((QTab.of_rag hn1 hRN).congr fun r t _ _ => by rw [cutQ_both ruv])
                have HLN := Lib.hid hln
                have HL10 := Lib.hid (HL9.out.below hb10)
                have HB10 := Lib.hid (keep HB9.out hb10)
                have q0 := hm7.cell 0
                have q1 := hm7.cell 1
                have q2 := hm7.cell 2
                have q3 := hm7.cell 3
                have r0 := hm7.frozen 0
                have r1 := hm7.frozen 1
                have r2 := hm7.frozen 2
                have r3 := hm7.frozen 3
                simp at q0 q1 q2 q3
                have HM7 := Lib.hid hm7
                clear hO hRF hRN hb10 hm7 hln HL9 HB9 HK9 HM9 HF9 HG9 k0 k1 k2 k3 x0 x1
                go_wp2_with fail
                go_meet
                refine ⟨leftN jj m', dropF jj a', dropF jj b', dropF jj c', bothCut v u S, ?_, ?_, cut_ranged HRG.out, ?_, HMOD.out, ?_⟩
                · rw [HLN.out]; have := HSM.out; omega
                · rw [HLN.out]; exact right_drop HRT.out hjj
                · have := HL10.out.put4 HM7.out (.slice zA (leftN jj m') zc) (.bool po) (.slice (some ⟨gF7, 0, none⟩) n cF7) (.slice (some ⟨gN7, 0, none⟩) n cN7)
                  rw [← HLN.out] at this
                  exact this
                · exact (((HB10.out.setCell HGM.out _).setCell HGM.out _).setCell HGM.out _).setCell HGM.out _
              · have hcv : costV m' a' b' c' u v = 16 := by
                  rcases costV_cases HT.out.right u v with ⟨e, -⟩ | ⟨-, h, -⟩ | ⟨-, he⟩
                  · exact absurd e ruv
                  · exact h
                  · obtain ⟨jj, hjj, -, he⟩ := he
                    exact absurd ⟨jj, hjj, (Mt.edge HT.out.right hjj).2 he⟩ hno
                have HCV := Lib.hid hcv
                have HNO := Lib.hid hno
                clear hcv hno
                go_wp2_with fail
                have hba : Below wr.heap.size wr (wr.alloc (.cells #[.int .i64 u, .int .i64 v, .int .i64 (c j)] 31)) := (Below.refl _ _).alloc (Nat.le_refl _) _
                have hxb : Blk (wr.alloc (.cells #[.int .i64 u, .int .i64 v, .int .i64 (c j)] 31)) wr.heap.size 31 #[.int .i64 u, .int .i64 v, .int .i64 (c j)] := Blk.new _ _ _
                obtain ⟨wa, hwa⟩ : ∃ wa, wr.alloc (.cells #[.int .i64 u, .int .i64 v, .int .i64 (c j)] 31) = wa := ⟨_, rfl⟩
                rw [hwa] at hba hxb ⊢
                obtain ⟨px, hpx⟩ : ∃ px, wr.heap.size = px := ⟨_, rfl⟩
                rw [hpx] at hxb ⊢
                have HTA := Lib.hid (HT.out.below hba)
                have HKA := Lib.hid (HK6.out.below hba)
                have HWA : Hid (Below w.heap.size w wa) := keep HW.out hba
                have x0 := hxb.cell 0
                have x1 := hxb.cell 1
                simp at x0 x1
                clear hba hxb hwa hpx HK6 HM6 HF6 HG6 HT HW k0 y0 y1 y2
                have hcall := costOf_walk A6 m' cp6 a' b' c' u v wa (HKA.out.lnk HTA.out.bel) (by have := HTA.out.small; omega) 16 HCV.out
                refine hcall.mono ?_
                clear hcall
                rintro e w7 ⟨rfl, h7⟩
                subst w7
                go_wp2_with fail
                have hcall := lineCut_none s n m' v u w1.heap.size po a' b' c' _ _ wa HTA.out.line hn1 hn8 (by have := HTA.out.small; omega) HTA.out.right (fun q hq h => HNO.out ⟨q, hq, h.symm⟩)
                refine hcall.mono ?_
                clear hcall
                rintro e w8 ⟨rfl, hb8⟩
                have HT8 := Lib.hid (HTA.out.below hb8)
                have HW8 := Lib.hid (keep HWA.out hb8)
                clear hb8 HTA HWA HKA x0 x1
                go_wp2_with fail
                refine (err_no 2 2 true ⟨fun _ => rfl, fun _ => rfl⟩ w8 (HE.out.keep HW8.out)).mono ?_
                rintro e w9 ⟨rfl, hb9⟩
                have HT9 := Lib.hid (HT8.out.below hb9)
                clear hb9 HT8 HW8
                go_wp2_with fail
                go_meet
                exact ⟨m', a', b', c', S, HT9.out⟩
          case rest =>
            obtain ⟨m6, a6, b6, c6, S6, hT6⟩ := hcut
            have HT6 := Lib.hid hT6
            have HM6 := Lib.hid hT6.mod
            clear hT6 HT HW HBB cz
            go_wp2_with fail
            go_loopw [17] (fun q wi => ∃ i : Nat, i ≤ n ∧ q = .int .i64 i ∧ Below wc.heap.size wc wi) (fun q _ => n - (intOf q).toNat)
            case atStart => exact ⟨0, by omega, rfl, Below.refl _ _⟩
            case round =>
              obtain ⟨i, hi, rfl, hb⟩ := hrel
              have HTI := Lib.hid (HT6.out.below hb)
              have HBI := Lib.hid hb
              clear hb
              by_cases hin : i < n
              · have hin' : (i : Int) < n := by omega
                have hcall := lineRow_ok s n m6 i i rfl _ po a6 b6 c6 _ _ wr HTI.out.line hin hn8
                have HC := Lib.hid hcall
                clear hcall
                go_wp2_with fail
                refine HC.out.mono ?_
                rintro e w7 ⟨v7, rfl, hV7, hb7⟩
                obtain ⟨A7, q7, e7, hv7⟩ := hV7.vec
                subst e7
                have HV7 := Lib.hid hv7
                have HT7 := Lib.hid (HTI.out.below hb7)
                have HB7 := Lib.hid (keep HBI.out hb7)
                clear hV7 hv7 hb7 HC HTI HBI
                go_wp2_with fail
                have hcall := lineNext_ok s n m6 i i rfl _ po a6 b6 c6 _ _ w7 HT7.out.line hin hn8
                refine hcall.mono ?_
                clear hcall
                rintro e w8 ⟨v8, rfl, hV8, hb8⟩
                obtain ⟨A8, q8, e8, hv8⟩ := hV8.vec
                subst e8
                have HV8 := Lib.hid hv8
                have HV7b := Lib.hid (HV7.out.keep hb8)
                have HT8 := Lib.hid (HT7.out.below hb8)
                have HB8 := Lib.hid (keep HB7.out hb8)
                obtain ⟨A6, cp6, gF6, fc6, gN6, nc6, hk6, hb6, hf6, hg6⟩ := HT8.out.mod
                obtain ⟨BF, CF, f1, f2⟩ := hf6
                obtain ⟨BG, CG, g1, g2⟩ := hg6
                have k2 := hb6.cell 2
                have k3 := hb6.cell 3
                simp at k2 k3
                have x1 := f1.cell hin
                have z1 := g1.cell hin
                have HX := Lib.hid (f2 i hin)
                have HZ := Lib.hid (g2 i hin)
                clear hV8 hv8 hb8 HT7 HB7 HV7 hk6 hb6 f1 f2 g1 g2
                go_wp2_with fail
                have hcall := ints_walk A7 (some ⟨BF i, 0, none⟩) n n q7 (CF i) _ _ w8 HV7b.out HX.out.vec (by omega) (by omega) true ⟨fun _ => ⟨rfl, fun _ _ => rfl⟩, fun _ => rfl⟩
                refine hcall.mono ?_
                clear hcall
                rintro e w9 ⟨rfl, k9, hw9⟩
                subst w9
                go_wp2_with fail
                have hcall := ints_walk A8 (some ⟨BG i, 0, none⟩) n n q8 (CG i) _ _ (w8.drewN k9) (HV8.out.drewN k9) ((HZ.out.drewN k9).vec) (by omega) (by omega) true ⟨fun _ => ⟨rfl, fun _ _ => rfl⟩, fun _ => rfl⟩
                refine hcall.mono ?_
                clear hcall
                rintro e w10 ⟨rfl, k10, hw10⟩
                subst w10
                go_wp2_with fail
                go_roundw
                case rel => exact ⟨i + 1, by omega, by go_num, below_drewN HB8.out _⟩
                case measure => simp [intOf]; omega
              · have hd1 : decide (i < n) = false := decide_eq_false hin
                have hd2 : decide ((i : Int) < n) = false := decide_eq_false (by omega)
                have hd3 : decide (n ≤ i) = true := decide_eq_true (by omega)
                obtain ⟨A6, cp6, gF6, fc6, gN6, nc6, hk6, hb6, hf6, hg6⟩ := HTI.out.mod
                have k0 := hb6.cell 0
                have k1 := hb6.cell 1
                have k2 := hb6.cell 2
                have k3 := hb6.cell 3
                simp at k0 k1 k2 k3
                have hcall := stepped_q n A6 (some ⟨gF6, 0, none⟩) (some ⟨gN6, 0, none⟩) m6 cp6 fc6 nc6 a6 b6 c6 po _ _ wr (hk6.lnk HTI.out.bel) (by have := HTI.out.small; omega) HTI.out.right hf6.mat hg6.mat hn1 hn8 HTI.out.rng
                have HC := Lib.hid hcall
                have HMI := Lib.hid hb6
                have HFI := Lib.hid hf6
                have HGI := Lib.hid hg6
                clear hcall hk6 hb6 hf6 hg6 HBI
                go_wp2_with fail
                refine HC.out.mono ?_
                rintro e w7 ⟨vF, vN, b0, mid, gF0, BF, CF, BN, CN, rfl, -, hAp, hb7⟩
                obtain ⟨gF7, cF7, e1, -, -, -, -⟩ := hAp.one.cells hn1
                obtain ⟨gN7, cN7, e2, -, -, -, -⟩ := hAp.two.cells hn1
                subst e1
                subst e2
                have hb78 : Below w7.heap.size w7 (w7.alloc (.cells #[.slice A6 m6 cp6, .bool po, .slice (some ⟨gF7, 0, none⟩) n cF7, .slice (some ⟨gN7, 0, none⟩) n cN7] 65)) := (Below.refl _ _).alloc (Nat.le_refl _) _
                have hbb : Below wr.heap.size wr (w7.alloc (.cells #[.slice A6 m6 cp6, .bool po, .slice (some ⟨gF7, 0, none⟩) n cF7, .slice (some ⟨gN7, 0, none⟩) n cN7] 65)) := keep hb7 hb78
                have HQF := Lib.hid ((QTab.of_at hAp.one).below hb78)
                have HQN := Lib.hid ((QTab.of_at hAp.two).below hb78)
                have HT8 := Lib.hid (HTI.out.below hbb)
                have HF8 := Lib.hid (HFI.out.below hbb)
                have HG8 := Lib.hid (HGI.out.below hbb)
                have HM8 := Lib.hid (HMI.out.below hbb HMI.out.lt)
                have HNB : Hid (Blk (w7.alloc (.cells #[.slice A6 m6 cp6, .bool po, .slice (some ⟨gF7, 0, none⟩) n cF7, .slice (some ⟨gN7, 0, none⟩) n cN7] 65)) w7.heap.size 65 #[.slice A6 m6 cp6, .bool po, .slice (some ⟨gF7, 0, none⟩) n cF7, .slice (some ⟨gN7, 0, none⟩) n cN7]) := Blk.new _ _ _
                have u2 := HM8.out.cell 2
                have u3 := HM8.out.cell 3
                simp at u2 u3
                clear hAp hb7 hb78 hbb HTI HMI HFI HGI HC k0 k1 k2 k3
                obtain ⟨b1, hb1⟩ : ∃ b1 : Bool, b1 = true ↔ SameM n n (fun _ => n) (fun _ => n) (fun i t => (thinkF po n t (costF m6 a6 b6 c6) (fun k => (S6 k t).1) (fun k => (S6 k t).2) i).1) (fun i t => (S6 i t).1) := ⟨_, @decide_eq_true_iff _ (Classical.propDecidable _)⟩
                obtain ⟨b2, hb2⟩ : ∃ b2 : Bool, b2 = true ↔ SameM n n (fun _ => n) (fun _ => n) (fun i t => (thinkF po n t (costF m6 a6 b6 c6) (fun k => (S6 k t).1) (fun k => (S6 k t).2) i).2) (fun i t => (S6 i t).2) := ⟨_, @decide_eq_true_iff _ (Classical.propDecidable _)⟩
                have HB1' := Lib.hid hb1
                have HB2' := Lib.hid hb2
                clear hb1 hb2
                go_wp2_with fail
                obtain ⟨w8, hw8⟩ : ∃ w8, w7.alloc (.cells #[.slice A6 m6 cp6, .bool po, .slice (some ⟨gF7, 0, none⟩) n cF7, .slice (some ⟨gN7, 0, none⟩) n cN7] 65) = w8 := ⟨_, rfl⟩
                rw [hw8] at HQF HQN HT8 HF8 HG8 HM8 HNB u2 u3 ⊢
                obtain ⟨g2, hg2⟩ : ∃ g2, w7.heap.size = g2 := ⟨_, rfl⟩
                rw [hg2] at HNB ⊢
                clear hw8 hg2
                have t2 := HNB.out.cell 2
                have t3 := HNB.out.cell 3
                simp at t2 t3
                have hcall := rows_walk (some ⟨gF7, 0, none⟩) (some ⟨gF6, 0, none⟩) n n cF7 fc6 (fun _ => n) (fun _ => n) _ _ w8 HQF.out.mat HF8.out.mat (by omega) (by omega) (fun _ _ => by show n ≤ _; omega) (fun _ _ => by show n ≤ _; omega) b1 HB1'.out
                refine hcall.mono ?_
                clear hcall
                rintro e w9 ⟨rfl, k9, hw9⟩
                subst w9
                go_wp2_with fail
                have hcall := rows_walk (some ⟨gN7, 0, none⟩) (some ⟨gN6, 0, none⟩) n n cN7 nc6 (fun _ => n) (fun _ => n) _ _ (w8.drewN k9) (HQN.out.below (below_drewN (Below.refl _ _) k9)).mat (HG8.out.below (below_drewN (Below.refl _ _) k9)).mat (by omega) (by omega) (fun _ _ => by show n ≤ _; omega) (fun _ _ => by show n ≤ _; omega) b2 HB2'.out
                refine hcall.mono ?_
                clear hcall
                rintro e w10 ⟨rfl, k10, hw10⟩
                subst w10
                have HT10 := Lib.hid (HT8.out.below (below_drewN (Below.refl w8.heap.size w8) (k9 + k10)))
                have hcall := lineStill s n m6 _ po a6 b6 c6 _ _ (w8.drewN (k9 + k10)) (HN.out.keep (keep HB1.out HT10.out.bel)) HT10.out.line hn1 hn8 (by have := HT10.out.small; omega) HT10.out.right HT10.out.rng (b1 && b2) (by
                  rw [Bool.and_eq_true, HB1'.out, HB2'.out]
                  unfold SameM SameV
                  exact ⟨fun h i t hi ht => ⟨((h.1.2 i hi).2 t ht).symm, ((h.2.2 i hi).2 t ht).symm⟩, fun h => ⟨⟨rfl, fun i hi => ⟨rfl, fun t ht => (h i t hi ht).1.symm⟩⟩, rfl, fun i hi => ⟨rfl, fun t ht => (h i t hi ht).2.symm⟩⟩⟩)
                have HC := Lib.hid hcall
                clear hcall u2 u3 t2 t3 HB1' HB2'
                go_wp2_with fail
                refine HC.out.mono ?_
                rintro e w11 ⟨rfl, hb11⟩
                have HT11 := Lib.hid (HT10.out.below hb11)
                clear hb11 HC HT10 HT8
                cases b1 with
                | true =>
                  cases b2 with
                  | true =>
                    simp only [Bool.and_self]
                    go_wp2_with fail
                    go_roundw
                    case rel => exact ⟨k + 1, by omega, by go_num, m6, a6, b6, c6, S6, HT11.out⟩
                    case measure => simp [intOf]; omega
                  | false =>
                    simp only [Bool.and_false]
                    go_wp2_with fail
                    go_roundw
                    case rel => exact ⟨k + 1, by omega, by go_num, m6, a6, b6, c6, S6, HT11.out⟩
                    case measure => simp [intOf]; omega
                | false =>
                  simp only [Bool.false_and]
                  go_wp2_with fail
                  go_roundw
                  case rel => exact ⟨k + 1, by omega, by go_num, m6, a6, b6, c6, S6, HT11.out⟩
                  case measure => simp [intOf]; omega
      · have hd1 : decide (k < nk) = false := decide_eq_false hkn
        have hd2 : decide ((k : Int) < nk) = false := decide_eq_false (by omega)
        have hd3 : decide (nk ≤ k) = true := decide_eq_true (by omega)
        have hcall := lineRow_bad s n m' n (.inr (Int.le_refl _)) _ po a' b' c' _ _ wr HT.out.line hn8
        have HC := Lib.hid hcall
        clear hcall
        go_wp2_with fail
        refine HC.out.mono ?_
        rintro e w6 ⟨rfl, h6⟩
        subst w6
        have hcall := lineNext_bad s n m' (-1) (.inl (by omega)) _ po a' b' c' _ _ wr HT.out.line hn8
        have HC2 := Lib.hid hcall
        clear hcall HC
        go_wp2_with fail
        refine HC2.out.mono ?_
        rintro e w7 ⟨rfl, h7⟩
        subst w7
        clear HC2
        go_wp2_with fail
        refine (err_no 1 1 true ⟨fun _ => rfl, fun _ => rfl⟩ wr (HE.out.keep HW.out)).mono ?_
        rintro e w8 ⟨rfl, hb8⟩
        have HW8 := Lib.hid (keep HW.out hb8)
        clear hb8
        go_wp2_with fail
        refine (err_no 1 1 true ⟨fun _ => rfl, fun _ => rfl⟩ w8 (HE.out.keep HW8.out)).mono ?_
        rintro e w9 ⟨rfl, hb9⟩
        have HW9 := Lib.hid (keep HW8.out hb9)
        clear hb9
        go_wp2_with fail
        go_ret
        exact ⟨rfl, HW9.out⟩
  · refine (lineNew_bad x A m cp po a b c w1 (HL.out.keep HB1.out) hm v hf).mono ?_
    rintro e w2 ⟨rfl, hb2⟩
    have HB2 := Lib.hid (keep HB1.out hb2)
    clear hb2 HB1
    go_wp2_with fail
    have hcall := graphFault_bad x A m cp a b c w2 (HL.out.keep HB2.out) hm v hf
    refine hcall.mono ?_
    clear hcall
    rintro e w3 ⟨rfl, hb3⟩
    have HB3 := Lib.hid (keep HB2.out hb3)
    clear hb3 HB2
    go_wp2_with fail
    refine (err_no v v true ⟨fun _ => rfl, fun _ => rfl⟩ w3 (HE.out.keep HB3.out)).mono ?_
    rintro e w4 ⟨rfl, hb4⟩
    have HB4 := Lib.hid (keep HB3.out hb4)
    have hv0 : (v == 0) = false := beq_false_of_ne (by omega)
    have hv1 : (v != 0) = true := by simp; omega
    clear hb4 HB3 hf hv
    go_wp2_with fail
    go_ret
    exact ⟨rfl, HB4.out⟩

end Go.Proofs.YtlbdbfmgkappaaaDoor


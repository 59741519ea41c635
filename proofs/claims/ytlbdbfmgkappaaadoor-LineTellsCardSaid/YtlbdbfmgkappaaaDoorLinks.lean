/- Links in a block of the call's own: slices.Clone, the closure of graph.Cut, slices.IndexFunc, slices.DeleteFunc of links. -/
import Derived.Test.YtlbdbfmgkappaaaDoorNear
import Derived.Lib.SliceRun
namespace Go.Proofs.YtlbdbfmgkappaaaDoor
open Go.RowKit
set_option linter.unusedVariables false

/-- A link's cell, by its place in a row of links. -/
def linkC (a b c : Nat → Int) (t : Nat) : Value := .int .i64 (if t % 3 = 0 then a (t / 3) else if t % 3 = 1 then b (t / 3) else c (t / 3))

theorem linkC0 (a b c : Nat → Int) (i : Nat) : linkC a b c (i * 3) = .int .i64 (a i) := by
  unfold linkC
  rw [if_pos (by omega), show i * 3 / 3 = i by omega]
theorem linkC1 (a b c : Nat → Int) (i : Nat) : linkC a b c (i * 3 + 1) = .int .i64 (b i) := by
  unfold linkC
  rw [if_neg (by omega), if_pos (by omega), show (i * 3 + 1) / 3 = i by omega]
theorem linkC2 (a b c : Nat → Int) (i : Nat) : linkC a b c (i * 3 + 2) = .int .i64 (c i) := by
  unfold linkC
  rw [if_neg (by omega), if_neg (by omega), show (i * 3 + 2) / 3 = i by omega]

theorem RowP.lnk {w : World} {g m : Nat} {a b c : Nat → Int} (h : RowP w g 31 (m * 3) (linkC a b c)) : Lnk w (some ⟨g, 0, none⟩) m a b c := by
  intro i hi
  refine ⟨_, rfl, h.lt, ?_, ?_, ?_⟩
  · rw [Addr.add_lit, Nat.zero_add, h.cell (show i * 3 < m * 3 by omega), linkC0]
  · rw [Addr.add_lit, Nat.zero_add, h.cell (show i * 3 + 1 < m * 3 by omega), linkC1]
  · rw [Addr.add_lit, Nat.zero_add, h.cell (show i * 3 + 2 < m * 3 by omega), linkC2]

/-- The cells of links, as an append wants them. -/
theorem Lnk.news {w : World} {ad : Addr} {m : Nat} {a b c : Nat → Int} (h : Lnk w (some ad) m a b c) : ∀ j u, ((List.range (m * 3)).map (linkC a b c))[j]? = some u → w.cell? (ad.add j) = some u := by
  intro j u hu
  have hj : j < m * 3 := by
    rcases Nat.lt_or_ge j (m * 3) with hlt | hge
    · exact hlt
    · rw [List.getElem?_eq_none (by simpa using hge)] at hu
      cases hu
  have hu' : linkC a b c j = u := by simpa [hj] using hu
  subst hu'
  obtain ⟨ad', e, -, h0, h1, h2⟩ := h (j / 3) (by omega)
  injection e with e
  subst e
  rcases (show j = j / 3 * 3 ∨ j = j / 3 * 3 + 1 ∨ j = j / 3 * 3 + 2 by omega) with e | e | e
  · rw [e, linkC0]; exact h0
  · rw [e, linkC1]; exact h1
  · rw [e, linkC2]; exact h2

theorem infoLink : (Tryd.prog.info? 31).map (fun i => (i.zero, i.size, i.bytes)) = some (some (.agg #[.int .i64 0, .int .i64 0, .int .i64 0]), 3, 24) := by kernel_rfl

/-- An own row of links, told by the index. -/
theorem RowP.of_own_links {w : World} {base g m cap : Nat} {f : Nat → Value} (h : w.ownsRow base 31 3 (.slice (some ⟨g, 0, none⟩) m cap) m ((List.range (m * 3)).map f)) : base ≤ g ∧ m ≤ cap ∧ RowP w g 31 (m * 3) f := by
  rcases h.2 with ⟨h', _⟩ | ⟨g', cap', cur, h', hb, hg, hnc, _, hcs, htake⟩
  · cases h'
  · simp only [Value.slice.injEq, Option.some.injEq, Addr.mk.injEq, and_true, true_and] at h'
    obtain ⟨rfl, rfl⟩ := h'
    refine ⟨hb, hnc, cur, hg, by rw [hcs]; exact Nat.mul_le_mul_right 3 hnc, fun i hi => ?_⟩
    have e : (cur.toList.take (m * 3))[i]? = ((List.range (m * 3)).map f)[i]? := by rw [htake]
    rw [List.getElem?_take, if_pos (by omega)] at e
    simpa [hi] using e

set_option maxRecDepth 100000 in
set_option maxHeartbeats 1000000 in
theorem clone_links (A : Option Addr) (m cp : Nat) (a b c : Nat → Int) (w : World) (hl : Lnk w A m a b c) (h1 : 1 ≤ m) (hm : m ≤ 1000000000000) :
    Calls Tryd.prog 49 #[.slice A m cp] w fun e w' => ∃ g cap, e = .returned (.slice (some ⟨g, 0, none⟩) m cap) ∧ w.heap.size ≤ g ∧ m ≤ cap ∧ RowP w' g 31 (m * 3) (linkC a b c) ∧ Below w.heap.size w w' := by
  obtain ⟨ad, rfl, hal, -⟩ := hl 0 (by omega)
  have HL := Lib.hid hl
  have HW := Lib.hid ((hl.keep ((Below.refl _ _).alloc (Nat.le_refl _) (.cells #[] 31))).news)
  clear hl
  obtain ⟨i0, hi0, hz0, hz1, hz2⟩ := info_parts infoLink
  have HI := Lib.hid hi0
  have HZ := Lib.hid hz0
  have HZ1 := Lib.hid hz1
  have HZ2 := Lib.hid hz2
  clear hi0 hz0 hz1 hz2
  have HO : Hid ((w.alloc (.cells #[] 31)).ownsRow w.heap.size 31 3 (.slice (some ⟨w.heap.size, 0, none⟩) 0 0) 0 []) :=
    ⟨rfl, .inr ⟨w.heap.size, 0, #[], rfl, Nat.le_refl _, heap_alloc_new w _, Nat.le_refl _, Nat.zero_le _, rfl, rfl⟩⟩
  have hnil : ∀ w', (binOp .eql 22 (.slice (some ad) m cp) (.slice none 0 0)).run Tryd.prog w' = .ok (.bool false) w' := fun w' => Lib.run_eql_slice_nil w' 22 31 (some ad) m cp 0 0 Tryd.underlying22
  go_enter Tryd.func49, Tryd.ntmps49
  go_wp2_with (at_builtin; refine wpList_append_lies _ rfl (.tmp 5) (.tmp 6) 22 rfl w.heap.size 31 i0 _ 3 24 Tryd.underlying22 HI.out HZ.out HZ1.out HZ2.out rfl (by decide) _ 0 [] rfl HO.out ad m cp ((List.range (m * 3)).map (linkC a b c)) rfl (by simp) HW.out (by simp [Value.oneCell', linkC]) (by omega) (by unfold maxLen; omega) (by omega) (by simp) _ rfl ?_)
  intro g cap w1 hown hgr hgo hlt
  have hown' : w1.ownsRow w.heap.size 31 3 (.slice (some ⟨g, 0, none⟩) m cap) m ((List.range (m * 3)).map (linkC a b c)) := by simpa using hown
  obtain ⟨hg, hcap, hr⟩ := RowP.of_own_links hown'
  have HR := Lib.hid hr
  have HG := Lib.hid hg
  have HB : Hid (Below w.heap.size w w1) := (Below.alloc (Below.refl _ _) (Nat.le_refl _) _).grown hgr (by simp) (fun k hk => by
    have : k = w.heap.size := by simpa [Value.ownBlock] using hk.symm
    omega)
  clear hown hown' hgr hgo hr hg
  go_wp2_with fail
  go_ret
  exact ⟨g, cap, rfl, HG.out, hcap, HR.out, HB.out⟩

/-- Is the link between both? -/
def mtB (x y u v : Int) : Bool := decide ((x = u ∧ y = v) ∨ (x = v ∧ y = u))

theorem mtB_yes {a b : Nat → Int} {j : Nat} {u v : Int} (h : Mt a b j u v) : mtB (a j) (b j) u v = true := decide_eq_true h
theorem mtB_no {a b : Nat → Int} {j : Nat} {u v : Int} (h : ¬ Mt a b j u v) : mtB (a j) (b j) u v = false := decide_eq_false h

set_option maxRecDepth 100000 in
set_option maxHeartbeats 1000000 in
theorem cutFn (x y z u v : Int) (p q : Addr) (w : World) (hu : w.cell? p = some (.int .i64 u)) (hv : w.cell? q = some (.int .i64 v)) (d : Bool) (hd : mtB x y u v = d) :
    Calls Tryd.prog 76 #[.agg #[.int .i64 x, .int .i64 y, .int .i64 z], .pointer (some p), .pointer (some q)] w fun e w' => e = .returned (.bool d) ∧ w' = w.alloc (.cells #[.int .i64 x, .int .i64 y, .int .i64 z] 31) := by
  have hpl := World.block_lt_of_cell? w _ hu
  have hql := World.block_lt_of_cell? w _ hv
  have hu' : (w.alloc (.cells #[.int .i64 x, .int .i64 y, .int .i64 z] 31)).cell? p = some (.int .i64 u) := by rw [World.cell?_alloc_lt _ _ p hpl]; exact hu
  have hv' : (w.alloc (.cells #[.int .i64 x, .int .i64 y, .int .i64 z] 31)).cell? q = some (.int .i64 v) := by rw [World.cell?_alloc_lt _ _ q hql]; exact hv
  clear hpl hql
  have HD := Lib.hid hd
  clear hd
  by_cases e1 : x = u
  · subst e1
    by_cases e2 : y = v
    · subst e2
      obtain rfl : d = true := by rw [← HD.out]; unfold mtB; simp
      go_enter Tryd.func76, Tryd.ntmps76
      go_wp2_with fail
      go_ret
      exact ⟨rfl, rfl⟩
    · have hd2 : (y == v) = false := beq_false_of_ne e2
      by_cases e3 : x = v
      · subst e3
        obtain rfl : d = false := by rw [← HD.out]; unfold mtB; simp [e2]
        clear e2
        go_enter Tryd.func76, Tryd.ntmps76
        go_wp2_with fail
        go_ret
        exact ⟨rfl, rfl⟩
      · have hd3 : (x == v) = false := beq_false_of_ne e3
        obtain rfl : d = false := by rw [← HD.out]; unfold mtB; simp [e2, e3]
        clear e2 e3
        go_enter Tryd.func76, Tryd.ntmps76
        go_wp2_with fail
        go_ret
        exact ⟨rfl, rfl⟩
  · have hd1 : (x == u) = false := beq_false_of_ne e1
    by_cases e3 : x = v
    · subst e3
      by_cases e4 : y = u
      · subst e4
        obtain rfl : d = true := by rw [← HD.out]; unfold mtB; simp
        clear e1
        go_enter Tryd.func76, Tryd.ntmps76
        go_wp2_with fail
        go_ret
        exact ⟨rfl, rfl⟩
      · have hd4 : (y == u) = false := beq_false_of_ne e4
        obtain rfl : d = false := by rw [← HD.out]; unfold mtB; simp [e1, e4]
        clear e1 e4
        go_enter Tryd.func76, Tryd.ntmps76
        go_wp2_with fail
        go_ret
        exact ⟨rfl, rfl⟩
    · have hd3 : (x == v) = false := beq_false_of_ne e3
      obtain rfl : d = false := by rw [← HD.out]; unfold mtB; simp [e1, e3]
      clear e1 e3
      go_enter Tryd.func76, Tryd.ntmps76
      go_wp2_with fail
      go_ret
      exact ⟨rfl, rfl⟩

/-- A link's cells, in the row's own spelling. -/
theorem RowP.link_cells {w : World} {g m : Nat} {a b c : Nat → Int} (h : RowP w g 31 (m * 3) (linkC a b c)) {i : Nat} (hi : i < m) :
    w.cell? ⟨g, i * 3, none⟩ = some (.int .i64 (a i)) ∧ w.cell? ⟨g, i * 3 + 1, none⟩ = some (.int .i64 (b i)) ∧ w.cell? ⟨g, i * 3 + 2, none⟩ = some (.int .i64 (c i)) :=
  ⟨by rw [h.cell (show i * 3 < m * 3 by omega), linkC0], by rw [h.cell (show i * 3 + 1 < m * 3 by omega), linkC1], by rw [h.cell (show i * 3 + 2 < m * 3 by omega), linkC2]⟩

set_option maxRecDepth 100000 in
set_option maxHeartbeats 1000000 in
theorem indexFn (g m cp : Nat) (a b c : Nat → Int) (u v : Int) (p q : Nat) (w : World) (hr : RowP w g 31 (m * 3) (linkC a b c)) (hm : m ≤ 1000000000000) (hu : w.cell? ⟨p, 0, none⟩ = some (.int .i64 u)) (hv : w.cell? ⟨q, 0, none⟩ = some (.int .i64 v)) (idx : Int) (lim : Nat) (hlm : lim ≤ m)
    (hn : ∀ j, j < lim → ¬ Mt a b j u v) (hx : (idx = -1 ∧ lim = m) ∨ (idx = lim ∧ lim < m ∧ Mt a b lim u v)) :
    Calls Tryd.prog 84 #[.slice (some ⟨g, 0, none⟩) m cp, .func (.func 76) #[] #[.pointer (some ⟨p, 0, none⟩), .pointer (some ⟨q, 0, none⟩)]] w fun e w' => e = .returned (.int .i64 idx) ∧ Below w.heap.size w w' := by
  have hpl := World.block_lt_of_cell? w _ hu
  have hql := World.block_lt_of_cell? w _ hv
  have HR := Lib.hid hr
  have HN := Lib.hid hn
  have HX := Lib.hid hx
  have HU := Lib.hid hu
  have HV := Lib.hid hv
  have HPL := Lib.hid hpl
  have HQL := Lib.hid hql
  clear hr hn hx hu hv hpl hql
  go_enter Tryd.func84, Tryd.ntmps84
  go_wp2_with fail
  go_loopw [8] (fun i wr => ∃ r : Nat, r ≤ lim ∧ i = .int .i64 r ∧ Below w.heap.size w wr) (fun i _ => m - (intOf i).toNat)
  case atStart => exact ⟨0, by omega, rfl, Below.refl _ _⟩
  case round =>
    obtain ⟨r, hr, rfl, hb⟩ := hrel
    have HB := Lib.hid hb
    have hu := (hb.cell HPL.out).trans HU.out
    have hv := (hb.cell HQL.out).trans HV.out
    clear hb
    by_cases hlt : r < lim
    · have hlt' : (r : Int) < m := by omega
      obtain ⟨hc0, hc1, hc2⟩ := (HR.out.below HB.out HR.out.lt).link_cells (show r < m by omega)
      have HM := Lib.hid (mtB_no (HN.out r hlt))
      go_wp2_with fail
      have hcall := cutFn (a r) (b r) (c r) u v ⟨p, 0, none⟩ ⟨q, 0, none⟩ wr hu hv false HM.out
      refine hcall.mono ?_
      clear hcall
      rintro e w2 ⟨rfl, rfl⟩
      have HB2 := Lib.hid (HB.out.alloc HB.out.size (.cells #[.int .i64 (a r), .int .i64 (b r), .int .i64 (c r)] 31))
      clear HB hu hv hc0 hc1 hc2
      go_wp2_with fail
      go_roundw
      case rel => exact ⟨r + 1, by omega, by go_num, HB2.out⟩
      case measure => simp [intOf]; omega
    · have er : r = lim := by omega
      subst er
      rcases HX.out with ⟨rfl, e⟩ | ⟨rfl, hlm', hmt⟩
      · subst e
        go_wp2_with fail
        go_ret
        exact ⟨rfl, HB.out⟩
      · have hlt' : (r : Int) < m := by omega
        obtain ⟨hc0, hc1, hc2⟩ := (HR.out.below HB.out HR.out.lt).link_cells hlm'
        have HM := Lib.hid (mtB_yes hmt)
        clear hmt
        go_wp2_with fail
        have hcall := cutFn (a r) (b r) (c r) u v ⟨p, 0, none⟩ ⟨q, 0, none⟩ wr hu hv true HM.out
        refine hcall.mono ?_
        clear hcall
        rintro e w2 ⟨rfl, rfl⟩
        have HB2 := Lib.hid (HB.out.alloc HB.out.size (.cells #[.int .i64 (a r), .int .i64 (b r), .int .i64 (c r)] 31))
        clear HB hu hv hc0 hc1 hc2
        go_wp2_with fail
        go_ret
        exact ⟨rfl, HB2.out⟩

end Go.Proofs.YtlbdbfmgkappaaaDoor

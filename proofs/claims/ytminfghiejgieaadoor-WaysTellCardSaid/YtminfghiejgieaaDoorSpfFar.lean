/- The walk of spf.Far: the nearest first. -/
import Derived.Test.YtminfghiejgieaaDoorPlPush
import Derived.Test.YtminfghiejgieaaDoorBellRun
import Derived.Test.YtminfghiejgieaaDoorCosts
import Derived.Deep.LoopGhost
namespace Go.Proofs.YtminfghiejgieaaDoor
open Go.RowKit
set_option linter.unusedVariables false

/-- What spf.Far keeps: the row of how far, the places. -/
structure SpfW (w0 w : World) (p gf n g cap nq : Nat) (F G far : Nat → Int) : Prop where
  pl : Pl w p g nq cap F G
  row : RowP w gf 3 n fun i => .int .i64 (far i)
  ne1 : gf ≠ p
  ne2 : gf ≠ g
  lp : w0.heap.size ≤ p
  lf : w0.heap.size ≤ gf
  lg : w0.heap.size ≤ g
  bel : Below w0.heap.size w0 w
  nn : ∀ i, i < nq → 0 ≤ G i

section
variable {w0 w w' : World} {p gf n g g' cap cap' nq nq' : Nat} {F G far F' G' : Nat → Int}
theorem SpfW.drewN (h : SpfW w0 w p gf n g cap nq F G far) (k : Nat) : SpfW w0 (w.drewN k) p gf n g cap nq F G far :=
  ⟨h.pl.drewN k, h.row.drewN k, h.ne1, h.ne2, h.lp, h.lf, h.lg, below_drewN h.bel k, h.nn⟩
theorem SpfW.alloc (h : SpfW w0 w p gf n g cap nq F G far) (o : Obj) : SpfW w0 (w.alloc o) p gf n g cap nq F G far :=
  ⟨h.pl.alloc o, h.row.alloc o, h.ne1, h.ne2, h.lp, h.lf, h.lg, h.bel.alloc h.bel.size o, h.nn⟩
theorem SpfW.set (h : SpfW w0 w p gf n g cap nq F G far) (k : Nat) (x : Int) : SpfW w0 (w.setCell ⟨gf, k, none⟩ (.int .i64 x)) p gf n g cap nq F G (upd far k x) := by
  refine ⟨h.pl.touch ((Touch.refl (fun i => i = gf) w).setCell (.inl rfl) _) ?_, (h.row.set k (.int .i64 x)).congr fun i _ => upd_val far k i x, h.ne1, h.ne2, h.lp, h.lf, h.lg, h.bel.setCell h.lf _, h.nn⟩
  rintro i (rfl | rfl) e
  · exact h.ne1 e.symm
  · exact h.ne2 e.symm
theorem SpfW.op (h : SpfW w0 w p gf n g cap nq F G far) (hp : Pl w' p g' nq' cap' F' G') (hg : g' = g ∨ w.heap.size ≤ g') (ht : Touch (plS p g) w w') (hn : ∀ i, i < nq' → 0 ≤ G' i) : SpfW w0 w' p gf n g' cap' nq' F' G' far := by
  have hr : RowP w' gf 3 n fun i => .int .i64 (far i) := h.row.touch ht (by
    rintro (e | e)
    · exact h.ne1 e
    · exact h.ne2 e)
  have hs := h.bel.size
  have hl := h.row.lt
  refine ⟨hp, hr, h.ne1, ?_, h.lp, h.lf, ?_, ht.below h.bel h.bel.size ?_, hn⟩
  · rcases hg with e | e
    · rw [e]; exact h.ne2
    · omega
  · rcases hg with e | e
    · rw [e]; exact h.lg
    · omega
  · rintro i (rfl | rfl)
    · exact h.lp
    · exact h.lg
end

/-- A block of its own stays behind an operation on the places. -/
theorem blk_op {w w' : World} {p g bx : Nat} {t : TypeId} {cs : Array Value} (h : Blk w bx t cs) (ht : Touch (plS p g) w w') (h1 : bx ≠ p) (h2 : bx ≠ g) : Blk w' bx t cs := h.touch ht (by
  rintro (e | e)
  · exact h1 e
  · exact h2 e)

set_option maxRecDepth 100000 in
set_option maxHeartbeats 1000000 in
theorem spfFar_bad (x y : Int) (A : Option Addr) (m cp : Nat) (a b c : Nat → Int) (w : World) (hl : Lnk w A m a b c) (hm : m ≤ 9223372036854775807) (v : Int) (h : FaultG x m a b c v ∨ (GoodG x m a b c ∧ (y < 0 ∨ x ≤ y) ∧ v = 1)) :
    Calls Tryd.prog 69 #[.int .i64 x, .slice A m cp, .int .i64 y] w fun e w' => e = .returned (.tuple #[.slice none 0 0, errNo v]) ∧ Below w.heap.size w w' := by
  have HL := Lib.hid hl
  clear hl
  rcases h with hf | ⟨hg, hy, rfl⟩
  · have HF := Lib.hid hf
    clear hf
    go_enter Tryd.func69, Tryd.ntmps69
    go_wp2_with fail
    refine (costs_bad x A m cp a b c w HL.out hm v HF.out).mono ?_
    rintro e w1 ⟨rfl, hb1⟩
    go_wp2_with fail
    go_ret2
    exact ⟨rfl, hb1⟩
  · obtain ⟨n, rfl, -, -, -⟩ := good_nat hg
    have HG := Lib.hid hg
    clear hg
    rcases (show y < 0 ∨ (0 ≤ y ∧ (n : Int) ≤ y) by omega) with hy | ⟨hy0, hy1⟩
    · go_enter Tryd.func69, Tryd.ntmps69
      go_wp2_with fail
      have hcall := costs_ok n n rfl A m cp a b c w HL.out hm HG.out
      refine hcall.mono ?_
      clear hcall
      rintro e w1 ⟨g, cg, B, C, rfl, -, -, hb1⟩
      have HB1 := Lib.hid hb1
      clear hb1
      go_wp2_with fail
      go_ret2
      exact ⟨rfl, HB1.out⟩
    · go_enter Tryd.func69, Tryd.ntmps69
      go_wp2_with fail
      have hcall := costs_ok n n rfl A m cp a b c w HL.out hm HG.out
      refine hcall.mono ?_
      clear hcall
      rintro e w1 ⟨g, cg, B, C, rfl, -, -, hb1⟩
      have HB1 := Lib.hid hb1
      clear hb1
      go_wp2_with fail
      go_ret2
      exact ⟨rfl, HB1.out⟩

/-- The one place at the start. -/
def startP (t : Nat) : Nat → Int := fun _ => t

set_option maxRecDepth 100000 in
set_option maxHeartbeats 4000000 in
theorem spfFar_ok (n t : Nat) (x y : Int) (hx : x = (n : Int)) (hy : y = (t : Int)) (A : Option Addr) (m cp : Nat) (a b c : Nat → Int) (w : World) (hl : Lnk w A m a b c) (hm : m ≤ 9223372036854775807) (hg : GoodG x m a b c) (ht : t < n) :
    Calls Tryd.prog 69 #[.int .i64 x, .slice A m cp, .int .i64 y] w fun e w' => ∃ g : Nat, e = .returned (.tuple #[.slice (some ⟨g, 0, none⟩) n n, .nilIface]) ∧ w.heap.size ≤ g ∧
      RowP w' g 3 n (fun i => .int .i64 (endF t a b c m i)) ∧ Below w.heap.size w w' := by
  subst hx
  subst hy
  have h1 : 1 ≤ n := by have := hg.1; omega
  have h8 : n ≤ 8 := by have := hg.2.1; omega
  have hR : Right n m a b c := by simpa using hg.2.2
  have HL := Lib.hid hl
  have HG := Lib.hid hg
  have HK := Lib.hid (cost_m hR)
  have HD := Lib.hid (far_end hR ht)
  have HT := Lib.hid ht
  have h1' : (1 : Int) ≤ n := by omega
  have h8' : (n : Int) ≤ 8 := by omega
  have ht' : (t : Int) < n := by omega
  have hd1 : decide ((t : Int) < 0) = false := decide_eq_false (by omega)
  have hd2 : decide (n ≤ t) = false := decide_eq_false (by omega)
  clear hl hg hR
  go_enter Tryd.func69, Tryd.ntmps69
  go_wp2_with fail
  have hcall := costs_ok n n rfl A m cp a b c w HL.out hm HG.out
  refine hcall.mono ?_
  clear hcall
  rintro e wc ⟨g, cg, B, C, rfl, -, hat, hbc⟩
  obtain ⟨g', cg', e, -, hgl, hgc, -⟩ := hat.cells h1
  have eg : g = g' := by
    simp only [Value.slice.injEq, Option.some.injEq, Addr.mk.injEq] at e
    exact e.1.1
  subst eg
  have HGC := Lib.hid hgc
  have HGL := Lib.hid hgl
  have HAT := Lib.hid hat
  have HBC := Lib.hid hbc
  clear hat hgc hgl e hbc
  go_wp2_with fail
  have hcall := repeat_ints wc.heap.size n n 16 (wc.alloc (.cells #[.int .i64 16] 3)) rfl h1 h8 (by simp)
  refine hcall.mono ?_
  clear hcall
  rintro e w1 ⟨rfl, hblk, hb1⟩
  have hs : (wc.alloc (.cells #[Value.int .i64 16] 3)).heap.size = wc.heap.size + 1 := by simp
  rw [hs] at hblk hb1 ⊢
  have hc1 : w1.cell? ⟨wc.heap.size + 1, t, none⟩ = some (.int .i64 16) := by rw [hblk.cell]; simp [HT.out]
  have hz1 : w1.frozen? ⟨wc.heap.size + 1, t, none⟩ = false := hblk.frozen t
  have HR : Hid (RowP (w1.setCell ⟨wc.heap.size + 1, t, none⟩ (.int .i64 0)) (wc.heap.size + 1) 3 n (fun i => .int .i64 (startF t i))) := by
    have h1 : RowP w1 (wc.heap.size + 1) 3 n (fun _ => .int .i64 16) := ⟨_, hblk, by simp, fun j hj => by simp [hj]⟩
    refine (h1.set t (.int .i64 0)).congr fun j hj => ?_
    unfold upd startF
    by_cases e : j = t
    · subst e; simp
    · rw [if_neg e, if_neg e]
  have HB1 : Hid (Below wc.heap.size wc (w1.setCell ⟨wc.heap.size + 1, t, none⟩ (.int .i64 0))) :=
    ((Below.alloc (Below.refl _ _) (Nat.le_refl _) _).trans (hb1.mono (by omega))).setCell (by show wc.heap.size ≤ wc.heap.size + 1; omega) _
  have hlt1 : wc.heap.size + 1 < w1.heap.size := hblk.lt
  have HS := Lib.hid hlt1
  clear hblk hb1 hs hlt1
  go_wp2_with fail
  have HW0 : Hid (SpfW wc (((w1.setCell ⟨wc.heap.size + 1, t, none⟩ (.int .i64 0)).alloc (.cells #[.int .i64 0, .int .i64 t] 144)).alloc (.cells #[.slice (some ⟨w1.heap.size, 0, none⟩) 1 1] 146)) (w1.heap.size + 1) (wc.heap.size + 1) n w1.heap.size 1 1 (fun _ => 0) (startP t) (startF t)) := by
    have hz := HS.out
    have hs1 : ((w1.setCell ⟨wc.heap.size + 1, t, none⟩ (.int .i64 0)).alloc (.cells #[.int .i64 0, .int .i64 t] 144)).heap.size = w1.heap.size + 1 := by simp
    have hs0 : (w1.setCell ⟨wc.heap.size + 1, t, none⟩ (.int .i64 0)).heap.size = w1.heap.size := by simp
    have hbl : Blk ((w1.setCell ⟨wc.heap.size + 1, t, none⟩ (.int .i64 0)).alloc (.cells #[.int .i64 0, .int .i64 t] 144)) w1.heap.size 144 #[.int .i64 0, .int .i64 t] := by
      have := Blk.new (w1.setCell ⟨wc.heap.size + 1, t, none⟩ (.int .i64 0)) 144 #[.int .i64 0, .int .i64 t]
      rw [hs0] at this
      exact this
    have hbp : Blk (((w1.setCell ⟨wc.heap.size + 1, t, none⟩ (.int .i64 0)).alloc (.cells #[.int .i64 0, .int .i64 t] 144)).alloc (.cells #[.slice (some ⟨w1.heap.size, 0, none⟩) 1 1] 146)) (w1.heap.size + 1) 146 #[.slice (some ⟨w1.heap.size, 0, none⟩) 1 1] := by
      have := Blk.new ((w1.setCell ⟨wc.heap.size + 1, t, none⟩ (.int .i64 0)).alloc (.cells #[.int .i64 0, .int .i64 t] 144)) 146 #[.slice (some ⟨w1.heap.size, 0, none⟩) 1 1]
      rw [hs1] at this
      exact this
    have hbl2 := hbl.alloc (.cells #[.slice (some ⟨w1.heap.size, 0, none⟩) 1 1] 146)
    refine ⟨⟨hbp, ⟨by simp, .inr ⟨w1.heap.size, 1, #[.int .i64 0, .int .i64 t], rfl, Nat.zero_le _, hbl2, Nat.le_refl _, by decide, by simp, ?_⟩⟩, by omega⟩, (HR.out.alloc _).alloc _, by omega, by omega, by omega, by omega, by omega, ?_, fun i _ => Int.natCast_nonneg t⟩
    · simp [placeC, startP, List.range_succ]
    · exact (HB1.out.alloc HB1.out.size _).alloc (by have := HB1.out.size; rw [hs1]; omega) _
  have HJ0 := Lib.hid (spf_start HK.out HD.out HT.out h8)
  obtain ⟨p, hp⟩ : ∃ p, w1.heap.size + 1 = p := ⟨_, rfl⟩
  obtain ⟨gf, hgf⟩ : ∃ gf, wc.heap.size + 1 = gf := ⟨_, rfl⟩
  rw [hp, hgf] at HW0
  rw [hp, hgf]
  clear hp hgf hc1 hz1 HR HB1 HS
  go_loopg [] (2 * sumN (startF t) n + 1) (fun k wr => ∃ g' cap qn0 F G far, SpfW wc wr p gf n g' cap qn0 F G far ∧ SpfJ n t (costF m a b c) (endF t a b c m) far (plL qn0 F G) ∧ 2 * sumN far n + qn0 ≤ k)
  case atStart => exact ⟨_, _, 1, _, _, _, HW0.out, HJ0.out, Nat.le_refl _⟩
  case round =>
    obtain ⟨g', cap, qn0, F, G, far, hW, hJ, hM⟩ := hrel
    clear HW0 HJ0
    have HW := Lib.hid hW
    have HJ := Lib.hid hJ
    have HM := Lib.hid hM
    have c0 := hW.pl.head
    clear hW hJ hM
    cases qn0 with
    | zero =>
      go_wp2_with fail
      refine (plLen _ _ _ _).mono ?_
      rintro e w2 ⟨rfl, rfl⟩
      go_wp2_with fail
      go_ret2
      have hs := HBC.out.size
      refine ⟨gf, rfl, by have := HW.out.lf; omega, HW.out.row.congr fun i hi => ?_, keep HBC.out HW.out.bel⟩
      rw [HJ.out.last HK.out HD.out i hi]
    | succ qn0 =>
      obtain ⟨hxn, hxd, hd15⟩ := HJ.out.que (F 0, (G 0).toNat) (plL_mem.2 ⟨0, by omega, rfl⟩)
      have hg0 := HW.out.nn 0 (by omega)
      have hq := HJ.out.size
      rw [plL_len] at hq
      obtain ⟨d, hd⟩ : ∃ d, F 0 = d := ⟨_, rfl⟩
      obtain ⟨xn, hx⟩ : ∃ xn : Nat, (G 0).toNat = xn := ⟨_, rfl⟩
      have hx' : G 0 = (xn : Int) := by omega
      have HPOP := Lib.hid (heapPop p g' qn0 cap F G wr HW.out.pl (by omega))
      rw [hd, hx, hx'] at HPOP
      simp only [hd, hx] at hxn hxd hd15
      have HFX : Hid (far xn ≤ d) := hxd
      have hx8 : (xn : Int) < n := by omega
      have hlow := HJ.out.low xn hxn
      clear hd hx hx' hg0 hxd
      go_wp2_with fail
      refine (plLen _ _ _ _).mono ?_
      rintro e w2 ⟨rfl, rfl⟩
      go_wp2_with fail
      refine HPOP.out.mono ?_
      rintro e w2 ⟨rfl, F', G', hP, hQ, hN, hT⟩
      have HQ := Lib.hid hQ
      have HW2 := Lib.hid (HW.out.op hP (.inl rfl) hT (hN HW.out.nn))
      clear hP hQ hN hT HPOP c0
      go_wp2_with fail
      have HX := Lib.hid (Blk.new w2 144 #[.int .i64 d, .int .i64 xn])
      have HW3 := Lib.hid (HW2.out.alloc (.cells #[.int .i64 d, .int .i64 xn] 144))
      have cf := HW3.out.row.cell hxn
      obtain ⟨bx, hbx⟩ : ∃ bx, w2.heap.size = bx := ⟨_, rfl⟩
      have HB2 : Hid (bx ≠ gf ∧ bx ≠ p ∧ bx ≠ g') := by
        have h1 := HW2.out.row.lt
        have h2 := HW2.out.pl.blk.lt
        have h3 := HW2.out.pl.row.lt
        exact ⟨by omega, by omega, by omega⟩
      rw [hbx] at HX ⊢
      clear hbx
      have cx0 := HX.out.cell 0
      have cx1 := HX.out.cell 1
      simp only [List.getElem?_toArray, List.getElem?_cons_zero, List.getElem?_cons_succ] at cx0 cx1
      cases hA : decide (far xn < d)
      · have HA := Lib.hid hA
        have HE := Lib.hid (HJ.out.take HQ.out (of_decide_eq_false hA))
        go_quiet (fail)
        have hcr := (HW3.out.bel.cell (p := ⟨g, xn, none⟩) HGL.out).trans (HGC.out xn hxn)
        clear hA cf hlow
        go_wp2_with fail
        have HW4 := Lib.hid (HW3.out.drewN nq)
        have HX4 := Lib.hid (HX.out.drewN nq)
        clear cx0 cx1 HX hcr HW3
        go_loopw [65] (fun v wi => ∃ k : Nat, k ≤ n ∧ v = .int .i64 k ∧ ∃ g' cap qn F G far', SpfW wc wi p gf n g' cap qn F G far' ∧ SpfI n t (costF m a b c) (endF t a b c m) xn k d far' (plL qn F G) (2 * sumN far n + qn0) ∧ Blk wi bx 144 #[.int .i64 d, .int .i64 xn] ∧ bx ≠ gf ∧ bx ≠ p ∧ bx ≠ g') (fun v _ => n - (intOf v).toNat)
        case atStart => exact ⟨0, by omega, rfl, g', cap, qn0, F', G', far, HW4.out, by have h := HE.out; rw [plL_len] at h; exact h, HX4.out, HB2.out⟩
        case round =>
          obtain ⟨k, hk, rfl, g2, cap2, qn, F2, G2, far2, hW, hI, hX, hB⟩ := hrel
          have HW5 := Lib.hid hW
          have HI := Lib.hid hI
          have HX5 := Lib.hid hX
          have HB5 := Lib.hid hB
          clear hW hI hX hB HW4 HX4 HB2 HE
          by_cases hlt : k < n
          · have hlt' : (k : Int) < n := by omega
            have hrw := (HAT.out.row xn hxn).2
            have ck := (hrw.below HW5.out.bel hrw.lt).cell hlt
            have cx0 := HX5.out.cell 0
            simp only [List.getElem?_toArray, List.getElem?_cons_zero] at cx0
            have cf := HW5.out.row.cell hlt
            have ff := HW5.out.row.frozen k
            have hk0 := HK.out.nonneg hxn hlt
            have hk16 := HK.out.high xn k hxn hlt
            have hd0 : 0 ≤ d := by
              have h := HI.out.low xn hxn
              rw [HI.out.here] at h
              exact h
            have hq5 : qn ≤ 256 := by
              have h1 := HI.out.size
              have h2 := HI.out.top
              rw [plL_len] at h1
              omega
            clear hrw
            by_cases hc : costF m a b c xn k + d < far2 k
            · have HC := Lib.hid hc
              have HW6 := Lib.hid (HW5.out.set k (costF m a b c xn k + d))
              have HX6 : Hid (Blk (wr.setCell ⟨gf, k, none⟩ (.int .i64 (costF m a b c xn k + d))) bx 144 #[.int .i64 d, .int .i64 xn]) := HX5.out.far HB5.out.1 _
              have hpush := heapPush p g2 qn cap2 (costF m a b c xn k + d) k F2 G2 _ HW6.out.pl (by omega)
              have HP := Lib.hid hpush
              clear hpush
              go_wp2_with fail
              refine HP.out.mono ?_
              rintro e w7 ⟨rfl, g7, cap7, F7, G7, hP7, hQ7, hN7, hg7, hT7⟩
              have HW7 := Lib.hid (HW6.out.op hP7 (by simpa [World.setCell] using hg7) hT7 (hN7 (by omega) HW6.out.nn))
              have HX7 := Lib.hid (blk_op HX6.out hT7 HB5.out.2.1 HB5.out.2.2)
              have HI7 := Lib.hid (HI.out.put HK.out HD.out HT.out hxn hlt HC.out hQ7)
              have HB7 : Hid (bx ≠ gf ∧ bx ≠ p ∧ bx ≠ g7) := by
                have h1 := HX5.out.lt
                refine ⟨HB5.out.1, HB5.out.2.1, ?_⟩
                rcases hg7 with e | e
                · rw [e]; exact HB5.out.2.2
                · have : (wr.setCell ⟨gf, k, none⟩ (.int .i64 (costF m a b c xn k + d))).heap.size = wr.heap.size := by simp
                  omega
              clear hP7 hQ7 hN7 hg7 hT7 HP HI HW5 HW6 HX5 HX6 HB5 ck cx0 cf ff hc
              go_wp2_with fail
              go_roundw
              case rel => exact ⟨k + 1, by omega, by go_num, g7, cap7, qn + 1, F7, G7, _, HW7.out, HI7.out, HX7.out, HB7.out⟩
              case measure => simp [intOf]; omega
            · have hd : decide (costF m a b c xn k + d < far2 k) = false := decide_eq_false hc
              have HI7 := Lib.hid (HI.out.on (by omega))
              clear hc
              go_wp2_with fail
              go_roundw
              case rel => exact ⟨k + 1, by omega, by go_num, g2, cap2, qn, F2, G2, far2, HW5.out, HI7.out, HX5.out, HB5.out⟩
              case measure => simp [intOf]; omega
          · have ek : k = n := by omega
            subst ek
            go_wp2_with fail
            go_roundg (gk - 1)
            case measure => have := HM.out; omega
            case rel => exact ⟨g2, cap2, qn, F2, G2, far2, HW5.out, HI.out.end_, by have h := HI.out.size; rw [plL_len] at h; have := HM.out; omega⟩
      · have HA := Lib.hid hA
        have HE := Lib.hid (HJ.out.skip HQ.out (of_decide_eq_true hA))
        go_quiet (fail)
        clear hA cf hlow
        go_wp2_with fail
        go_roundg (gk - 1)
        case measure => have := HM.out; omega
        case rel => exact ⟨g', cap, qn0, F', G', far, HW3.out.drewN _, HE.out, by have := HM.out; omega⟩

end Go.Proofs.YtminfghiejgieaaDoor

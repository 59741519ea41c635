/- HeapTells: the walk. Printed by gen_heaptells.py. -/
import Derived.Test.YtdilajieimbdnaaDoorHeapBest
import Derived.Test.YtdilajieimbdnaaDoorVecB
import Derived.Test.YtdilajieimbdnaaDoorErr
import Derived.Deep.QuietTactic
import Derived.BigQuiet
import Derived.Deep.Cut
import Derived.Deep.CutRange
import Derived.Deep.DeepCutAuto
namespace Go.Proofs.YtdilajieimbdnaaDoor
open Go.RowKit
set_option linter.unusedVariables false

theorem infoBoolH : (Tryd.prog.info? 4).map (fun i => (i.zero, i.size, i.bytes)) = some (some (.bool false), 1, 1) := by kernel_rfl
theorem infoIntH : (Tryd.prog.info? 3).map (fun i => (i.zero, i.size, i.bytes)) = some (some (.int .i64 0), 1, 8) := by kernel_rfl

theorem HeapT.parts {w0 wr : World} {h n gh gk : Nat} {has : Nat → Bool} {key : Nat → Int} (ht : HeapT w0 wr h n gh gk has key) : ∃ S, Hp wr h n (cntB has n) S has key := by
  obtain ⟨⟨S, hp, _⟩, _⟩ := ht
  exact ⟨S, hp⟩

/-- An error value of that number. -/
def ErrIs (v : Value) (k : Int) : Prop := (v = .nilIface ∧ k = 0) ∨ v = errNo k
theorem err_is (v : Value) (k : Int) (h : ErrIs v k) (w : World) (hg : ErrT w) : Calls Tryd.prog 11 #[v, .int .i64 k] w fun e w' => e = .returned (.bool true) ∧ Below w.heap.size w w' := by
  rcases h with ⟨rfl, rfl⟩ | rfl
  · exact err_nil 0 true ⟨fun _ => rfl, fun _ => rfl⟩ w
  · exact err_no k k true ⟨fun _ => rfl, fun _ => rfl⟩ w hg

/-- What the document says of a key: what is wrong with a put, with a question; the key. -/
def HCase (n : Nat) (has : Nat → Bool) (key : Nat → Int) (y ev fv wv : Int) : Prop :=
  ((y < 0 ∨ (n : Int) ≤ y) ∧ ev = 1 ∧ fv = 1 ∧ wv = 0) ∨ (∃ i : Nat, y = i ∧ i < n ∧ has i = false ∧ ev = 0 ∧ fv = 2 ∧ wv = 0) ∨ (∃ i : Nat, y = i ∧ i < n ∧ has i = true ∧ ev = 0 ∧ fv = 0 ∧ wv = key i)

theorem key_any {h n m : Nat} {has : Nat → Bool} {key : Nat → Int} {y ev fv wv : Int} {wr : World} {S : Nat → Prop} (hp : Hp wr h n m S has key) (hc : HCase n has key y ev fv wv) :
    Calls Tryd.prog 18 #[.pointer (some ⟨h, 0, none⟩), .int .i64 y] wr fun e w' => ∃ v, e = .returned (.tuple #[.int .i64 wv, v]) ∧ ErrIs v fv ∧ wr = w' := by
  rcases hc with ⟨hy, -, rfl, rfl⟩ | ⟨i, rfl, hi, hh, -, rfl, rfl⟩ | ⟨i, rfl, hi, hh, -, rfl, rfl⟩
  · exact (heapKey_range h n m S has key y wr hp hy).mono fun e w' ⟨he, hw⟩ => ⟨_, he, .inr rfl, hw⟩
  · exact (heapKey_none h n m i S has key i rfl wr hp hi hh).mono fun e w' ⟨he, hw⟩ => ⟨_, he, .inr rfl, hw⟩
  · exact (heapKey_some h n m i S has key i rfl wr hp hi hh).mono fun e w' ⟨he, hw⟩ => ⟨_, he, .inl ⟨rfl, rfl⟩, hw⟩

set_option maxRecDepth 100000 in
set_option maxHeartbeats 8000000 in
theorem heapTells_walk (x : Int) (A : Option Addr) (na ca : Nat) (s : Nat → Int) (B : Option Addr) (nb cb : Nat) (t : Nat → Int) (D : Option Addr) (nd cd : Nat) (u : Nat → Bool) (w : World) (hg : ErrT w)
    (hA : Vec w A na s) (hna : na ≤ 9223372036854775807) (hB : Vec w B nb t) (hnb : nb ≤ 9223372036854775807) (hD : VecB w D nd u) (hnd : nd ≤ 9223372036854775807) :
    Calls Tryd.prog 4 #[.int .i64 x, .slice A na ca, .slice B nb cb, .slice D nd cd] w fun e w' => e = .returned (.bool true) ∧ Below w.heap.size w w' := by
  have HA := Lib.hid hA
  have HBB := Lib.hid hB
  have HDD := Lib.hid hD
  have HG := Lib.hid hg
  clear hA hB hD hg
  rcases (show x < 0 ∨ (0 ≤ x ∧ 5000 < x) ∨ (0 ≤ x ∧ x ≤ 5000 ∧ 100 < x) ∨ (0 ≤ x ∧ x ≤ 100) by omega) with hx | ⟨hx0, hx⟩ | ⟨hx0, hx1, hx⟩ | ⟨hx0, hx⟩
  · have HX : Hid (x < 0 ∨ 5000 < x) := .inl hx
    go_enter Tryd.func4, Tryd.ntmps4
    go_wp2_with fail
    refine (heaped_walk w w (Below.refl _ _)).mono ?_
    rintro e w1 ⟨rfl, hb1⟩
    have HB1 := Lib.hid hb1
    clear hb1
    go_wp2_with fail
    refine (heapNew_bad x w1 HX.out).mono ?_
    rintro e w2 ⟨rfl, rfl⟩
    go_wp2_with fail
    refine (err_no 1 1 true ⟨fun _ => rfl, fun _ => rfl⟩ w1 (HG.out.keep HB1.out)).mono ?_
    rintro e w3 ⟨rfl, hb3⟩
    have HB3 := Lib.hid (keep HB1.out hb3)
    clear hb3
    go_wp2_with fail
    go_ret
    exact ⟨rfl, HB3.out⟩
  · have HX : Hid (x < 0 ∨ 5000 < x) := .inr hx
    go_enter Tryd.func4, Tryd.ntmps4
    go_wp2_with fail
    refine (heaped_walk w w (Below.refl _ _)).mono ?_
    rintro e w1 ⟨rfl, hb1⟩
    have HB1 := Lib.hid hb1
    clear hb1
    go_wp2_with fail
    refine (heapNew_bad x w1 HX.out).mono ?_
    rintro e w2 ⟨rfl, rfl⟩
    go_wp2_with fail
    refine (err_no 1 1 true ⟨fun _ => rfl, fun _ => rfl⟩ w1 (HG.out.keep HB1.out)).mono ?_
    rintro e w3 ⟨rfl, hb3⟩
    have HB3 := Lib.hid (keep HB1.out hb3)
    clear hb3
    go_wp2_with fail
    go_ret
    exact ⟨rfl, HB3.out⟩
  · obtain ⟨n, rfl⟩ : ∃ n : Nat, x = n := ⟨x.toNat, by omega⟩
    have hn5 : n ≤ 5000 := by omega
    go_enter Tryd.func4, Tryd.ntmps4
    go_wp2_with fail
    refine (heaped_walk w w (Below.refl _ _)).mono ?_
    rintro e w1 ⟨rfl, hb1⟩
    have HB1 := Lib.hid hb1
    clear hb1
    go_wp2_with fail
    have hcall := heapNew_ok n n rfl (fun _ => 0) w1 hn5
    refine hcall.mono ?_
    clear hcall
    rintro e w2 ⟨h, rfl, S, hp, hb2, hs, hh⟩
    go_wp2_with fail
    refine (err_nil 0 true ⟨fun _ => rfl, fun _ => rfl⟩ w2).mono ?_
    rintro e w3 ⟨rfl, hb3⟩
    have HB3 := Lib.hid (keep (keep HB1.out hb2) hb3)
    clear hb2 hb3 hp hs hh
    go_wp2_with fail
    go_ret
    exact ⟨rfl, HB3.out⟩
  · obtain ⟨n, rfl⟩ : ∃ n : Nat, x = n := ⟨x.toNat, by omega⟩
    have hn5 : n ≤ 5000 := by omega
    have hn1 : n ≤ 100 := by omega
    have hmkB := run_make_row' (P := Tryd.prog) 22 4 (.bool false) 1 Tryd.underlying22 infoBoolH rfl .i64 .i64 n (by omega) (by omega)
    have hmkI := run_make_row' (P := Tryd.prog) 23 3 (.int .i64 0) 8 Tryd.underlying23 infoIntH rfl .i64 .i64 n (by omega) (by omega)
    go_enter Tryd.func4, Tryd.ntmps4
    go_wp2_with fail
    refine (heaped_walk w w (Below.refl _ _)).mono ?_
    rintro e w1 ⟨rfl, hb1⟩
    have HB1 := Lib.hid hb1
    clear hb1
    go_wp2_with fail
    have hcall := heapNew_ok n n rfl (fun _ => 0) w1 hn5
    refine hcall.mono ?_
    clear hcall
    rintro e w2 ⟨h, rfl, S, hp, hb2, hs, hh⟩
    go_wp2_with fail
    refine (err_nil 0 true ⟨fun _ => rfl, fun _ => rfl⟩ w2).mono ?_
    rintro e w3 ⟨rfl, hb3⟩
    have HST : Hid (HeapT w ((w3.alloc (.cells (madeCells #[.bool false] n) 4)).alloc (.cells (madeCells #[.int .i64 0] n) 3)) h n w3.heap.size (w3.heap.size + 1) (fun _ => false) (fun _ => 0)) := by
      have hb := keep (keep HB1.out hb2) hb3
      have l1 := HB1.out.size
      have l2 := hb2.size
      have l3 := hb3.size
      have hz : cntB (fun _ => false) n = 0 := BestTo.empty (key := fun _ => 0) (.inl ⟨rfl, fun _ _ => rfl⟩)
      have hb4 : Below w3.heap.size w3 ((w3.alloc (.cells (madeCells #[.bool false] n) 4)).alloc (.cells (madeCells #[.int .i64 0] n) 3)) := ((Below.refl _ _).alloc (Nat.le_refl _) _).alloc (by simp) _
      refine ⟨⟨S, by rw [hz]; exact (hp.touch0 hb3).touch0 hb4, fun b hb' => ?_⟩, (RowP.made w3 (.bool false) n 4).alloc _, ?_, by omega, by omega, by omega, keep hb hb4⟩
      · have := hs b hb'
        omega
      · have := RowP.made (w3.alloc (.cells (madeCells #[.bool false] n) 4)) (.int .i64 0) n 3
        rwa [show (w3.alloc (.cells (madeCells #[Value.bool false] n) 4)).heap.size = w3.heap.size + 1 by simp] at this
    obtain ⟨gh, hgh⟩ : ∃ gh, gh = w3.heap.size := ⟨_, rfl⟩
    obtain ⟨gk, hgk⟩ : ∃ gk, gk = w3.heap.size + 1 := ⟨_, rfl⟩
    have HST1 : Hid (HeapT w ((w3.alloc (.cells (madeCells #[.bool false] n) 4)).alloc (.cells (madeCells #[.int .i64 0] n) 3)) h n gh gk (fun _ => false) (fun _ => 0)) := by rw [hgh, hgk]; exact HST.out
    have HGH := Lib.hid hgh
    have HGK := Lib.hid hgk
    clear hb2 hb3 hp hs hh HST hgh hgk
    go_wp2_with fail
    rw [← HGK.out, ← HGH.out]
    have ez : ((0 : Int)) = ((0 : Nat) : Int) := rfl
    clear ez
    go_loopw [16] (fun v wr => ∃ k : Nat, k ≤ na ∧ k ≤ nb ∧ k ≤ nd ∧ v = .int .i64 k ∧ ∃ has key, HeapT w wr h n gh gk has key) (fun v _ => na - (intOf v).toNat)
    case atStart => exact ⟨0, by omega, by omega, by omega, rfl, _, _, HST1.out⟩
    case round =>
      obtain ⟨k, hka, hkb, hkd, rfl, has, key, hst⟩ := hrel
      clear HST1 HGH HGK hmkB hmkI
      have HST := Lib.hid hst
      have hbw : Below w.heap.size w wr := hst.2.2.2.2.2.2
      have HBW := Lib.hid hbw
      obtain ⟨S, hp⟩ := hst.parts
      have HP := Lib.hid hp
      clear hp hbw
      by_cases hlt : k < na ∧ k < nb ∧ k < nd
      · obtain ⟨hlt1, hlt2, hlt3⟩ := hlt
        have hl1 : (k : Int) < na := by omega
        have hl2 : (k : Int) < nb := by omega
        have hl3 : (k : Int) < nd := by omega
        obtain ⟨ada, rfl, hada, hca0⟩ := HA.out k hlt1
        obtain ⟨adb, rfl, hadb, hcb0⟩ := HBB.out k hlt2
        obtain ⟨add, rfl, hadd, hcd0⟩ := HDD.out k hlt3
        obtain ⟨y, hy⟩ : ∃ y, s k = y := ⟨_, rfl⟩
        rw [hy] at hca0
        obtain ⟨z, hz⟩ : ∃ z, t k = z := ⟨_, rfl⟩
        rw [hz] at hcb0
        obtain ⟨d, hd⟩ : ∃ d, u k = d := ⟨_, rfl⟩
        rw [hd] at hcd0
        clear hy hz hd
        have HCA : ∀ w', Below w.heap.size w w' → w'.cell? (ada.add k) = some (.int .i64 y) := fun w' h => (h.cell (by rw [block_of_add]; exact hada)).trans hca0
        have HCB : ∀ w', Below w.heap.size w w' → w'.cell? (adb.add k) = some (.int .i64 z) := fun w' h => (h.cell (by rw [block_of_add]; exact hadb)).trans hcb0
        have HCD : ∀ w', Below w.heap.size w w' → w'.cell? (add.add k) = some (.bool d) := fun w' h => (h.cell (by rw [block_of_add]; exact hadd)).trans hcd0
        have HCA := Lib.hid HCA
        have HCB := Lib.hid HCB
        have HCD := Lib.hid HCD
        have hca := HCA.out _ HBW.out
        clear hca0 hcb0 hcd0 hada hadb hadd hst
        obtain ⟨bb, hbb⟩ : ∃ bb : Bool, bb = decide (y < 0 ∨ (n : Int) ≤ y) := ⟨_, rfl⟩
        have HBB2 := Lib.hid hbb
        clear hbb
        go_upto_region 20 with (fail)
        go_cut [98] (fun b wx => wx = wr ∧ b = .bool bb)
        case first => as_aux_lemma =>
          rcases (show y < 0 ∨ (¬ y < 0 ∧ (n : Int) ≤ y) ∨ (0 ≤ y ∧ y < n) by omega) with hr | ⟨hr1, hr⟩ | ⟨hr1, hr⟩
          · have HV : Hid (true = bb) := by rw [HBB2.out]; exact (decide_eq_true (.inl hr)).symm
            go_wp2_with fail
            go_meet
            exact ⟨rfl, by rw [← HV.out]⟩
          · have HV : Hid (true = bb) := by rw [HBB2.out]; exact (decide_eq_true (.inr hr)).symm
            go_wp2_with fail
            go_meet
            exact ⟨rfl, by rw [← HV.out]⟩
          · have HV : Hid (false = bb) := by rw [HBB2.out]; exact (decide_eq_false (by omega)).symm
            have hr2 : ¬ (n : Int) ≤ y := by omega
            have hr3 : ¬ y < 0 := by omega
            go_wp2_with fail
            go_meet
            exact ⟨rfl, by rw [← HV.out]⟩
        case rest =>
        obtain ⟨hwc, rfl⟩ := hcut
        subst wc
        go_upto_if 98 with (fail)
        go_cut [12, 18, 19] (fun e f q wx => wx = wr ∧ ∃ ev fv wv : Int, e = .int .i64 ev ∧ f = .int .i64 fv ∧ q = .int .i64 wv ∧ HCase n has key y ev fv wv)
        case first => as_aux_lemma =>
          rcases (show (y < 0 ∨ (n : Int) ≤ y) ∨ (0 ≤ y ∧ y < n) by omega) with hr | ⟨hr1, hr⟩
          · have HR : Hid (HCase n has key y 1 1 0) := .inl ⟨hr, rfl, rfl, rfl⟩
            obtain rfl : bb = true := by rw [HBB2.out]; exact decide_eq_true hr
            clear hr
            go_wp2_with fail
            go_meet
            exact ⟨rfl, 1, 1, 0, rfl, rfl, rfl, HR.out⟩
          · obtain rfl : bb = false := by rw [HBB2.out]; exact decide_eq_false (by omega)
            obtain ⟨i, rfl⟩ : ∃ i : Nat, y = i := ⟨y.toNat, by omega⟩
            have hin : i < n := by omega
            have hin' : (i : Int) < n := by omega
            have hhi := HST.out.2.1.cell hin
            have hki := HST.out.2.2.1.cell hin
            cases hh : has i with
            | false =>
              have HR : Hid (HCase n has key i 0 2 0) := .inr (.inl ⟨i, rfl, hin, hh, rfl, rfl, rfl⟩)
              rw [hh] at hhi
              clear hh
              go_wp2_with fail
              go_meet
              exact ⟨rfl, 0, 2, 0, rfl, rfl, rfl, HR.out⟩
            | true =>
              have HR : Hid (HCase n has key i 0 0 (key i)) := .inr (.inr ⟨i, rfl, hin, hh, rfl, rfl, rfl⟩)
              rw [hh] at hhi
              clear hh
              go_wp2_with fail
              go_meet
              exact ⟨rfl, 0, 0, key i, rfl, rfl, rfl, HR.out⟩
        case rest =>
          obtain ⟨hwc, ev, fv, wv, rfl, rfl, rfl, hcase⟩ := hcut
          subst wc
          have HC := Lib.hid hcase
          clear hcase
          go_wp2_with fail
          have hcall := key_any HP.out HC.out
          refine hcall.mono ?_
          clear hcall
          rintro e w4 ⟨v4, rfl, herr, h4⟩
          subst h4
          have HE4 := Lib.hid herr
          clear herr
          go_wp2_with fail
          refine (err_is v4 fv HE4.out _ (HG.out.keep HBW.out)).mono ?_
          rintro e w5 ⟨rfl, hb5⟩
          have HST5 := Lib.hid (HST.out.on hb5)
          have HBW5 := Lib.hid (keep HBW.out hb5)
          have hcb := HCB.out _ HBW5.out
          have hcd := HCD.out _ HBW5.out
          clear hb5
          obtain ⟨S5, hp5⟩ := HST5.out.parts
          have HP5 := Lib.hid hp5
          clear hp5
          go_upto_if 120 with (fail)
          go_cut [23] (fun v wx => v = .bool true ∧ ∃ has' key', HeapT w wx h n gh gk has' key')
          case first => as_aux_lemma =>
            rcases HC.out with ⟨hy, rfl, rfl, rfl⟩ | ⟨i, rfl, hin, hh, rfl, rfl, rfl⟩ | ⟨i, rfl, hin, hh, rfl, rfl, rfl⟩
            · have HR := Lib.hid hy
              clear hy
              cases d with
              | true =>
                go_wp2_with fail
                have hcall := heapDrop_bad h n (cntB has n) S5 has key y 1 w5 (heapKey_range h n (cntB has n) S5 has key y w5 HP5.out HR.out)
                refine hcall.mono ?_
                clear hcall
                rintro e w6 ⟨rfl, h6⟩
                subst h6
                go_wp2_with fail
                refine (err_no 1 1 true ⟨fun _ => rfl, fun _ => rfl⟩ w5 (HG.out.keep HBW5.out)).mono ?_
                rintro e w7 ⟨rfl, hb7⟩
                have HST7 := Lib.hid (HST5.out.on hb7)
                clear hb7
                go_wp2_with fail
                go_meet
                exact ⟨rfl, _, _, HST7.out⟩
              | false =>
                go_wp2_with fail
                have hcall := heapPut_range h n (cntB has n) S5 has key y z w5 HP5.out HR.out
                refine hcall.mono ?_
                clear hcall
                rintro e w6 ⟨rfl, h6⟩
                subst h6
                go_wp2_with fail
                refine (err_no 1 1 true ⟨fun _ => rfl, fun _ => rfl⟩ w5 (HG.out.keep HBW5.out)).mono ?_
                rintro e w7 ⟨rfl, hb7⟩
                have HST7 := Lib.hid (HST5.out.on hb7)
                clear hb7
                go_wp2_with fail
                go_meet
                exact ⟨rfl, _, _, HST7.out⟩
            · have HH := Lib.hid hh
              clear hh
              have hin' : (i : Int) < n := by omega
              cases d with
              | true =>
                go_wp2_with fail
                have hcall := heapDrop_bad h n (cntB has n) S5 has key i 2 w5 (heapKey_none h n (cntB has n) i S5 has key i rfl w5 HP5.out hin HH.out)
                refine hcall.mono ?_
                clear hcall
                rintro e w6 ⟨rfl, h6⟩
                subst h6
                go_wp2_with fail
                refine (err_no 2 2 true ⟨fun _ => rfl, fun _ => rfl⟩ w5 (HG.out.keep HBW5.out)).mono ?_
                rintro e w7 ⟨rfl, hb7⟩
                have HST7 := Lib.hid (HST5.out.on hb7)
                clear hb7
                go_wp2_with fail
                go_meet
                exact ⟨rfl, _, _, HST7.out⟩
              | false =>
                go_wp2_with fail
                have hcall := HST5.out.put (i := i) i z rfl hin
                refine hcall.mono ?_
                clear hcall
                rintro e w6 ⟨rfl, hu6⟩
                have HBW6 : Hid (Below w.heap.size w w6) := hu6.2.2.2.2.2.2
                have HU6 := Lib.hid hu6
                clear hu6
                go_wp2_with fail
                refine (err_nil 0 true ⟨fun _ => rfl, fun _ => rfl⟩ w6).mono ?_
                rintro e w7 ⟨rfl, hb7⟩
                have hu7 := HU6.out.on hb7
                have hbw7 := keep HBW6.out hb7
                clear hb7
                have hc0 := hu7.2.1.cell hin
                have hf0 := hu7.2.1.frozen i
                have hc1 := hu7.2.2.1.cell hin
                have hf1 := hu7.2.2.1.frozen i
                have hgne : gh ≠ gk := hu7.2.2.2.2.2.1
                have hcb7 : (w7.setCell ⟨gh, i, none⟩ (.bool true)).cell? (adb.add k) = some (.int .i64 z) := HCB.out _ (hbw7.setCell hu7.2.2.2.1 _)
                have HST8 := Lib.hid (hu7.putted)
                clear hu7
                go_wp2_with fail
                go_meet
                exact ⟨rfl, _, _, HST8.out⟩
            · have HH := Lib.hid hh
              clear hh
              have hin' : (i : Int) < n := by omega
              cases d with
              | true =>
                go_wp2_with fail
                have hcall := HST5.out.drop (i := i) i rfl hin HH.out
                refine hcall.mono ?_
                clear hcall
                rintro e w6 ⟨rfl, hu6⟩
                have HBW6 : Hid (Below w.heap.size w w6) := hu6.2.2.2.2.2.2
                have HU6 := Lib.hid hu6
                clear hu6
                go_wp2_with fail
                refine (err_nil 0 true ⟨fun _ => rfl, fun _ => rfl⟩ w6).mono ?_
                rintro e w7 ⟨rfl, hb7⟩
                have hu7 := HU6.out.on hb7
                have hbw7 := keep HBW6.out hb7
                clear hb7
                have hc0 := hu7.2.1.cell hin
                have hf0 := hu7.2.1.frozen i
                have HST8 := Lib.hid (hu7.dropped)
                clear hu7
                go_wp2_with fail
                go_meet
                exact ⟨rfl, _, _, HST8.out⟩
              | false =>
                go_wp2_with fail
                have hcall := HST5.out.put (i := i) i z rfl hin
                refine hcall.mono ?_
                clear hcall
                rintro e w6 ⟨rfl, hu6⟩
                have HBW6 : Hid (Below w.heap.size w w6) := hu6.2.2.2.2.2.2
                have HU6 := Lib.hid hu6
                clear hu6
                go_wp2_with fail
                refine (err_nil 0 true ⟨fun _ => rfl, fun _ => rfl⟩ w6).mono ?_
                rintro e w7 ⟨rfl, hb7⟩
                have hu7 := HU6.out.on hb7
                have hbw7 := keep HBW6.out hb7
                clear hb7
                have hc0 := hu7.2.1.cell hin
                have hf0 := hu7.2.1.frozen i
                have hc1 := hu7.2.2.1.cell hin
                have hf1 := hu7.2.2.1.frozen i
                have hgne : gh ≠ gk := hu7.2.2.2.2.2.1
                have hcb7 : (w7.setCell ⟨gh, i, none⟩ (.bool true)).cell? (adb.add k) = some (.int .i64 z) := HCB.out _ (hbw7.setCell hu7.2.2.2.1 _)
                have HST8 := Lib.hid (hu7.putted)
                clear hu7
                go_wp2_with fail
                go_meet
                exact ⟨rfl, _, _, HST8.out⟩
          case rest =>
            obtain ⟨rfl, has2, key2, hst8⟩ := hcut
            have HS2 := Lib.hid hst8
            clear hst8
            as_aux_lemma =>
              go_wp2_with fail
              go_loopw [24, 25, 26] (fun b m i wj => ∃ j : Nat, j ≤ n ∧ i = .int .i64 j ∧ m = .int .i64 (cntB has2 j : Nat) ∧ (∃ bb, b = .int .i64 bb ∧ BestTo has2 key2 j bb) ∧ HeapT w wj h n gh gk has2 key2) (fun _ _ i _ => n - (intOf i).toNat)
              case atStart => exact ⟨0, by omega, rfl, rfl, ⟨-1, rfl, .inl ⟨rfl, fun i hi => absurd hi (by omega)⟩⟩, HS2.out⟩
              case round =>
                obtain ⟨j, hj, rfl, rfl, ⟨bb, rfl, hbest⟩, hst⟩ := hrel
                clear HS2
                have HS3 := Lib.hid hst
                have HBEST := Lib.hid hbest
                clear hst hbest
                have hcn := cntB_le has2 j
                obtain ⟨q, hq⟩ : ∃ q, cntB has2 j = q := ⟨_, rfl⟩
                have HQ := Lib.hid hq
                rw [hq] at hcn ⊢
                clear hq
                by_cases hjn : j < n
                · have hjn' : (j : Int) < n := by omega
                  have hcj := HS3.out.2.1.cell hjn
                  have hkj := HS3.out.2.2.1.cell hjn
                  obtain ⟨kj, hkj'⟩ : ∃ v, key2 j = v := ⟨_, rfl⟩
                  have HKJ := Lib.hid hkj'
                  rw [hkj'] at hkj
                  clear hkj'
                  cases hhj : has2 j with
                  | false =>
                    rw [hhj] at hcj
                    have HC1 : Hid (cntB has2 (j + 1) = q) := by
                      have : cntB has2 (j + 1) = cntB has2 j + (if has2 j = true then 1 else 0) := rfl
                      rw [this, hhj, HQ.out]; rfl
                    have HBE1 := Lib.hid (HBEST.out.none hhj)
                    clear hhj
                    go_wp2_with fail
                    go_quiet (fail)
                    go_wp2_with fail
                    go_roundw
                    case rel => exact ⟨j + 1, by omega, by go_num, by rw [HC1.out], ⟨bb, rfl, HBE1.out⟩, HS3.out.on (below_drewN (Below.refl _ _) _)⟩
                    case measure => simp [intOf]; omega
                  | true =>
                    rw [hhj] at hcj
                    have HC1 : Hid (cntB has2 (j + 1) = q + 1) := by
                      have : cntB has2 (j + 1) = cntB has2 j + (if has2 j = true then 1 else 0) := rfl
                      rw [this, hhj, HQ.out]; rfl
                    by_cases hb0 : bb < 0
                    · have hb1 : bb = -1 := by
                        rcases HBEST.out with ⟨e, -⟩ | ⟨k', e, -⟩
                        · exact e
                        · omega
                      have HBE1 := Lib.hid (BestTo.first (by rw [← hb1]; exact HBEST.out) hhj)
                      have hdb : decide (bb < 0) = true := decide_eq_true hb0
                      clear hhj hb1
                      go_wp2_with fail
                      go_quiet (fail)
                      go_wp2_with fail
                      go_roundw
                      case rel => exact ⟨j + 1, by omega, by go_num, by rw [HC1.out]; go_num, ⟨_, rfl, HBE1.out⟩, HS3.out.on (below_drewN (Below.refl _ _) _)⟩
                      case measure => simp [intOf]; omega
                    · obtain ⟨b, rfl⟩ : ∃ b : Nat, bb = b := ⟨bb.toNat, by omega⟩
                      have hbn : b < n := by
                        rcases HBEST.out with ⟨e, -⟩ | ⟨k', e, hk', -⟩
                        · omega
                        · omega
                      have hbn' : (b : Int) < n := by omega
                      have hkb2 := HS3.out.2.2.1.cell hbn
                      obtain ⟨kb, hkb'⟩ : ∃ v, key2 b = v := ⟨_, rfl⟩
                      have HKB := Lib.hid hkb'
                      rw [hkb'] at hkb2
                      clear hkb'
                      have hdb : decide ((b : Int) < 0) = false := decide_eq_false (by omega)
                      by_cases hl : kj < kb
                      · have HBE1 := Lib.hid (HBEST.out.less hhj (by rw [HKJ.out, HKB.out]; exact hl))
                        clear hhj hb0
                        go_wp2_with fail
                        go_quiet (fail)
                        go_wp2_with fail
                        go_roundw
                        case rel => exact ⟨j + 1, by omega, by go_num, by rw [HC1.out]; go_num, ⟨_, rfl, HBE1.out⟩, HS3.out.on (below_drewN (Below.refl _ _) _)⟩
                        case measure => simp [intOf]; omega
                      · have hdl : decide (kj < kb) = false := decide_eq_false hl
                        have HBE1 := Lib.hid (HBEST.out.more (by rw [HKJ.out, HKB.out]; exact hl))
                        clear hhj hb0 hl
                        go_wp2_with fail
                        go_quiet (fail)
                        go_wp2_with fail
                        go_roundw
                        case rel => exact ⟨j + 1, by omega, by go_num, by rw [HC1.out]; go_num, ⟨_, rfl, HBE1.out⟩, HS3.out.on (below_drewN (Below.refl _ _) _)⟩
                        case measure => simp [intOf]; omega
                · obtain rfl : n = j := by omega
                  clear hjn hj
                  obtain ⟨S3, hp3⟩ := HS3.out.parts
                  have HP3 := Lib.hid hp3
                  have HBW3 : Hid (Below w.heap.size w wr) := HS3.out.2.2.2.2.2.2
                  clear hp3
                  by_cases hb0 : bb < 0
                  · have hb1 : bb = -1 := by
                      rcases HBEST.out with ⟨e, -⟩ | ⟨k', e, -⟩
                      · exact e
                      · omega
                    have hz : cntB has2 n = 0 := BestTo.empty (by rw [← hb1]; exact HBEST.out)
                    have hq0 : q = 0 := by rw [← HQ.out]; exact hz
                    subst hq0
                    subst hb1
                    have HZ := Lib.hid hz
                    clear hz hb0
                    go_wp2_with fail
                    have hcall := heapMin_none h n S3 has2 key2 wr (by have := HP3.out; rw [HZ.out] at this; exact this)
                    refine hcall.mono ?_
                    clear hcall
                    rintro e w20 ⟨rfl, h20⟩
                    subst h20
                    go_wp2_with fail
                    refine (err_no 2 2 true ⟨fun _ => rfl, fun _ => rfl⟩ wr (HG.out.keep HBW3.out)).mono ?_
                    rintro e w21 ⟨rfl, hb21⟩
                    have HS21 := Lib.hid (HS3.out.on hb21)
                    clear hb21
                    go_wp2_with fail
                    obtain ⟨S4, hp4⟩ := HS21.out.parts
                    have hcall := heapLen h n (cntB has2 n) S4 has2 key2 w21 hp4
                    rw [HZ.out] at hcall
                    refine hcall.mono ?_
                    clear hcall hp4
                    rintro e w22 ⟨rfl, h22⟩
                    subst h22
                    go_wp2_with fail
                    go_roundw
                    case rel => first | exact ⟨k + 1, by omega, by omega, by omega, by go_num, _, _, HS21.out⟩ | ((repeat apply Exists.intro); exact ⟨⟨k + 1, by omega, by omega, by omega, by go_num, _, _, HS21.out⟩, rfl⟩)
                    case measure => simp [intOf]; omega
                  · obtain ⟨b, rfl⟩ : ∃ b : Nat, bb = b := ⟨bb.toNat, by omega⟩
                    obtain ⟨hbn, hpos⟩ := HBEST.out.some_
                    have hbn' : (b : Int) < n := by omega
                    have hkb2 := HS3.out.2.2.1.cell hbn
                    have hdb : decide ((b : Int) < 0) = false := decide_eq_false (by omega)
                    have HPOS := Lib.hid hpos
                    clear hb0 hpos
                    go_wp2_with fail
                    have hcall := heapMin_some h n (cntB has2 n) S3 has2 key2 wr HP3.out HPOS.out
                    refine hcall.mono ?_
                    clear hcall
                    rintro e w20 ⟨i, rfl, hle, k20, hw20⟩
                    obtain rfl : i = b := HBEST.out.least hle
                    have HS20 := Lib.hid (show HeapT w w20 h n gh gk has2 key2 by rw [hw20]; exact HS3.out.on (below_drewN (Below.refl _ _) _))
                    clear hle hw20
                    go_wp2_with fail
                    refine (err_nil 0 true ⟨fun _ => rfl, fun _ => rfl⟩ w20).mono ?_
                    rintro e w21 ⟨rfl, hb21⟩
                    have HS21 := Lib.hid (HS20.out.on hb21)
                    clear hb21
                    go_wp2_with fail
                    obtain ⟨S4, hp4⟩ := HS21.out.parts
                    have hcall := heapLen h n (cntB has2 n) S4 has2 key2 w21 hp4
                    rw [HQ.out] at hcall
                    refine hcall.mono ?_
                    clear hcall hp4
                    rintro e w22 ⟨rfl, h22⟩
                    subst h22
                    go_wp2_with fail
                    go_roundw
                    case rel => first | exact ⟨k + 1, by omega, by omega, by omega, by go_num, _, _, HS21.out⟩ | ((repeat apply Exists.intro); exact ⟨⟨k + 1, by omega, by omega, by omega, by go_num, _, _, HS21.out⟩, rfl⟩)
                    case measure => simp [intOf]; omega
      · rcases (show ¬ k < na ∨ (k < na ∧ ¬ k < nb) ∨ (k < na ∧ k < nb ∧ ¬ k < nd) by omega) with h1 | ⟨h1, h2⟩ | ⟨h1, h2, h3⟩
        · obtain rfl : k = na := by omega
          clear hst hlt h1
          go_wp2_with fail
          go_ret
          exact ⟨rfl, HBW.out⟩
        · obtain rfl : k = nb := by omega
          have h1' : (k : Int) < na := by omega
          clear hst hlt h2
          go_wp2_with fail
          go_ret
          exact ⟨rfl, HBW.out⟩
        · obtain rfl : k = nd := by omega
          have h1' : (k : Int) < na := by omega
          have h2' : (k : Int) < nb := by omega
          clear hst hlt h3
          go_wp2_with fail
          go_ret
          exact ⟨rfl, HBW.out⟩

end Go.Proofs.YtdilajieimbdnaaDoor

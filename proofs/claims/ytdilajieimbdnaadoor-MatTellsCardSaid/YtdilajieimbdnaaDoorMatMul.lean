/- The walk of mat.Mul. -/
import Derived.Test.YtdilajieimbdnaaDoorMatOne
namespace Go.Proofs.YtdilajieimbdnaaDoor
open Go.RowKit
set_option linter.unusedVariables false

/-- The least of 16 and of what F tells of the first n. -/
def minTo (n : Nat) (F : Nat → Int) : Int :=
  match n with
  | 0 => 16
  | n + 1 => min (minTo n F) (F n)

/-- Two tables, one after the other. -/
def mulF (n : Nat) (a b : Nat → Nat → Int) (i k : Nat) : Int := minTo n fun j => a i j + b j k

theorem Mat.some_ {w : World} {A : Option Addr} {n : Nat} {L : Nat → Nat} {f : Nat → Nat → Int} (h1 : 1 ≤ n) (h : Mat w A n L f) : ∃ ad, A = some ad := by
  obtain ⟨ad, _, _, e, _⟩ := h 0 (by omega)
  exact ⟨ad, e⟩

theorem Mat.sq {w : World} {ad : Addr} {n : Nat} {f : Nat → Nat → Int} (h1 : 1 ≤ n) (h : Mat w (some ad) n (fun _ => n) f) (i : Nat) (hi : i < n) :
    ∃ Ai ci, (w.cell? (ad.add i) = some (.slice (some Ai) n ci) ∧ ad.block < w.heap.size) ∧ Ai.block < w.heap.size ∧ ∀ j, j < n → w.cell? (Ai.add j) = some (.int .i64 (f i j)) := by
  obtain ⟨ad', Ai, ci, e, hlt, hc, hv⟩ := h i hi
  injection e with e
  subst e
  have hv : Vec w Ai n (f i) := hv
  obtain ⟨Ai', rfl, hl, _⟩ := hv 0 (by omega)
  refine ⟨Ai', ci, ⟨hc, hlt⟩, hl, fun j hj => ?_⟩
  obtain ⟨a', e, hl', hc'⟩ := hv j hj
  injection e with e
  subst e
  exact hc'

attribute [local go_sem high] run_min_pair

set_option maxRecDepth 100000 in
set_option maxHeartbeats 2000000 in
theorem matMul_ok (A B : Option Addr) (n ca cb : Nat) (a b : Nat → Nat → Int) (w : World) (ha : Mat w A n (fun _ => n) a) (hb : Mat w B n (fun _ => n) b) (h1 : 1 ≤ n) (h8 : n ≤ 8) (hra : Ranged n a) (hrb : Ranged n b) :
    Calls Tryd.prog 49 #[.slice A n ca, .slice B n cb] w fun e w' => ∃ D c, e = .returned (.tuple #[.slice D n c, .nilIface]) ∧ Mat w' D n (fun _ => n) (mulF n a b) ∧ Below w.heap.size w w' := by
  have h1' : (1 : Int) ≤ n := by omega
  have h8' : (n : Int) ≤ 8 := by omega
  obtain ⟨ad, rfl⟩ := ha.some_ h1
  obtain ⟨bd, rfl⟩ := hb.some_ h1
  have HA := Lib.hid ha
  have HB := Lib.hid hb
  have HRA := Lib.hid hra
  have HRB := Lib.hid hrb
  clear ha hb hra hrb
  go_enter Tryd.func49, Tryd.ntmps49
  go_wp2_with fail
  refine (matCheck_ok (some ad) n ca a w HA.out h1 h8 HRA.out).mono ?_
  rintro e w1 ⟨rfl, hb1⟩
  have HB1 := Lib.hid hb1
  clear hb1
  go_wp2_with fail
  refine (matCheck_ok (some bd) n cb b w1 (HB.out.keep HB1.out) h1 h8 HRB.out).mono ?_
  rintro e w2 ⟨rfl, hb2⟩
  have HB2 := Lib.hid (keep HB1.out hb2)
  clear hb2 HB1
  go_wp2_with fail
  go_loopw [8, 34] (fun v i wr => ∃ r : Nat, r ≤ n ∧ i = .int .i64 r ∧ Tab wr w2.heap.size v r n (mulF n a b) ∧ Below w2.heap.size w2 wr) (fun _ i _ => n - (intOf i).toNat)
  case atStart => exact ⟨0, by omega, rfl, Tab.nil _ _ _ _, Below.refl _ _⟩
  case round =>
    obtain ⟨r, hr, rfl, hT, hbr⟩ := hrel
    by_cases hlt : r < n
    · obtain ⟨wo, rfl⟩ : ∃ wo : World, wo = wr := ⟨_, rfl⟩
      have hlt' : (r : Int) < n := by omega
      have HBR := Lib.hid (keep HB2.out hbr)
      obtain ⟨Ai, ci, hci, hAl, hvi⟩ := HA.out.sq h1 r hlt
      have hci := (HBR.out.cell (by rw [block_of_add]; exact hci.2)).trans hci.1
      have HBS := Lib.hid hbr
      have HT := Lib.hid hT
      have HVI := Lib.hid hvi
      have HAL := Lib.hid hAl
      clear hT hbr hvi hAl
      go_wp2_with fail
      have hcall := repeat_ints wo.heap.size n n 16 (wo.alloc (.cells #[.int .i64 16] 3)) rfl h1 h8 (by simp)
      refine hcall.mono ?_
      clear hcall
      rintro e w3 ⟨rfl, hblk, hb3⟩
      have hs : (wo.alloc (.cells #[Value.int .i64 16] 3)).heap.size = wo.heap.size + 1 := by simp
      rw [hs] at hblk hb3 ⊢
      have HR : Hid (RowP w3 (wo.heap.size + 1) 3 n (fun j => .int .i64 16)) := ⟨_, hblk, by simp, fun j hj => by simp [hj]⟩
      have HB3 : Hid (Below wo.heap.size wo w3) := (Below.alloc (Below.refl _ _) (Nat.le_refl _) _).trans (hb3.mono (by omega))
      clear hblk hb3 hs hci
      go_wp2_with fail
      go_loopw [44] (fun i wj => ∃ j : Nat, j ≤ n ∧ i = .int .i64 j ∧ RowP wj (wo.heap.size + 1) 3 n (fun k => .int .i64 (minTo j fun q => a r q + b q k)) ∧ Below wo.heap.size wo wj) (fun i _ => n - (intOf i).toNat)
      case atStart => exact ⟨0, by omega, rfl, HR.out, HB3.out⟩
      case round =>
        obtain ⟨j, hj, rfl, hRj, hbj⟩ := hrel
        clear HR HB3
        obtain ⟨wj, rfl⟩ : ∃ wj : World, wj = wr := ⟨_, rfl⟩
        by_cases hjl : j < n
        · have hjl' : (j : Int) < n := by omega
          have HBJ := Lib.hid hbj
          have HRJ := Lib.hid hRj
          have hbw : Below w.heap.size w wj := keep HBR.out hbj
          have hcj : wj.cell? (Ai.add j) = some (.int .i64 (a r j)) := (hbw.cell (by rw [block_of_add]; exact HAL.out)).trans (HVI.out j hjl)
          obtain ⟨Bj, cj, hcbj, hBl, hvj⟩ := HB.out.sq h1 j hjl
          have hcbj := (hbw.cell (by rw [block_of_add]; exact hcbj.2)).trans hcbj.1
          have HVJ := Lib.hid hvj
          have HBL := Lib.hid hBl
          have HBW := Lib.hid hbw
          have hr0 := (HRA.out r j hlt hjl).1
          have hr1 := (HRA.out r j hlt hjl).2
          clear hbj hRj hvj hBl hbw
          go_wp2_with fail
          go_loopw [54] (fun i wk => ∃ k : Nat, k ≤ n ∧ i = .int .i64 k ∧ RowP wk (wo.heap.size + 1) 3 n (fun q => .int .i64 (if q < k then minTo (j + 1) (fun p => a r p + b p q) else minTo j fun p => a r p + b p q)) ∧ Below wo.heap.size wo wk) (fun i _ => n - (intOf i).toNat)
          case atStart => exact ⟨0, by omega, rfl, by simpa using HRJ.out, HBJ.out⟩
          case round =>
            obtain ⟨k, hk, rfl, hRk, hbk⟩ := hrel
            clear HRJ HBJ hcj hcbj
            by_cases hkl : k < n
            · have hkl' : (k : Int) < n := by omega
              have hcx : wr.cell? (Bj.add k) = some (.int .i64 (b j k)) := ((keep HBR.out hbk).cell (by rw [block_of_add]; exact HBL.out)).trans (HVJ.out k hkl)
              have hcy : wr.cell? ⟨wo.heap.size + 1, k, none⟩ = some (.int .i64 (minTo j fun p => a r p + b p k)) := by
                rw [hRk.cell hkl]
                simp
              have hfz : wr.frozen? ⟨wo.heap.size + 1, k, none⟩ = false := hRk.frozen k
              have hs0 := (HRB.out j k hjl hkl).1
              have hs1 := (HRB.out j k hjl hkl).2
              have HRK := Lib.hid hRk
              have HBK := Lib.hid hbk
              clear hRk hbk
              go_wp2_with fail
              go_roundw
              case rel =>
                refine ⟨k + 1, by omega, by go_num, (HRK.out.set k _).congr ?_, HBK.out.setCell (by show wo.heap.size ≤ wo.heap.size + 1; omega) _⟩
                intro q hq
                unfold upd
                by_cases e : q = k
                · subst e
                  simp [minTo]
                · rw [if_neg e]
                  by_cases e2 : q < k
                  · simp only [if_pos e2, if_pos (show q < k + 1 by omega)]
                  · simp only [if_neg e2, if_neg (show ¬ q < k + 1 by omega)]
              case measure => simp [intOf]; omega
            · have ek : k = n := by omega
              subst ek
              have HBK := Lib.hid hbk
              have HRK := Lib.hid (hRk.congr (f' := fun q => .int .i64 (minTo (j + 1) fun p => a r p + b p q)) fun q hq => by simp only [if_pos hq])
              clear hRk hbk
              go_wp2_with fail
              go_roundw
              case rel => exact ⟨j + 1, by omega, by go_num, HRK.out, HBK.out⟩
              case measure => simp [intOf]; omega
        · have ej : j = n := by omega
          subst ej
          have HBJ := Lib.hid hbj
          have HRJ := Lib.hid hRj
          clear hbj hRj
          go_wp2_with (at_builtin; refine wpList_append_tab rfl (.tmp 72) (.tmp 74) rfl wo w2.heap.size _ r j (mulF j a b) rfl HT.out (HBJ.out.alloc HBJ.out.size _) (wo.heap.size + 1) j (by omega) (HRJ.out.alloc _) _ rfl (cell_new_at _ _ _ (by simp)) (by omega) HBS.out.size ?_)
          intro v2 w4 hT4 hb4
          have HT4 := Lib.hid hT4
          have HB4 : Hid (Below w2.heap.size w2 w4) := (HBS.out.trans ((HBJ.out.alloc HBJ.out.size _).mono HBS.out.size)).trans hb4
          clear hT4 hb4
          go_wp2_with fail
          go_roundw
          case rel => exact ⟨r + 1, by omega, by go_num, HT4.out, HB4.out⟩
          case measure => simp [intOf]; omega
    · have er : r = n := by omega
      subst er
      obtain ⟨g, c, rfl, hm⟩ := hT.mat h1
      have HM := Lib.hid hm
      clear hm hT
      go_wp2_with fail
      go_ret2
      exact ⟨_, _, rfl, HM.out, keep HB2.out hbr⟩

/-- A table that passes. -/
def Good (n : Nat) (L : Nat → Nat) (f : Nat → Nat → Int) : Prop := Square n L ∧ Ranged n f

open Classical in
/-- What is wrong with a table that does not. -/
noncomputable def fault (n : Nat) (L : Nat → Nat) (f : Nat → Nat → Int) : Int := if Square n L then 1 else 3

theorem matCheck_bad (A : Option Addr) (n c : Nat) (L : Nat → Nat) (f : Nat → Nat → Int) (w : World) (hm : Mat w A n L f) (hn : n ≤ 9223372036854775807) (h : ¬ Good n L f) :
    Calls Tryd.prog 45 #[.slice A n c] w fun e w' => e = .returned (errNo (fault n L f)) ∧ Below w.heap.size w w' := by
  by_cases hs : Square n L
  · have hr : ¬ Ranged n f := fun hr => h ⟨hs, hr⟩
    have e : fault n L f = 1 := by unfold fault; rw [if_pos hs]
    rw [e]
    exact matCheck_range A n c f w (hs.mat hm) hs.1 hs.2.1 hr
  · have e : fault n L f = 3 := by unfold fault; rw [if_neg hs]
    rw [e]
    exact matCheck_form A n c L f w hm hn hs

theorem matCheck_good (A : Option Addr) (n c : Nat) (L : Nat → Nat) (f : Nat → Nat → Int) (w : World) (hm : Mat w A n L f) (h : Good n L f) :
    Calls Tryd.prog 45 #[.slice A n c] w fun e w' => e = .returned .nilIface ∧ Below w.heap.size w w' :=
  matCheck_ok A n c f w (h.1.mat hm) h.1.1 h.1.2.1 h.2

set_option maxRecDepth 100000 in
set_option maxHeartbeats 1000000 in
theorem matMul_bad1 (A B : Option Addr) (n m ca cb : Nat) (L : Nat → Nat) (f : Nat → Nat → Int) (w : World) (ha : Mat w A n L f) (hn : n ≤ 9223372036854775807) (h : ¬ Good n L f) :
    Calls Tryd.prog 49 #[.slice A n ca, .slice B m cb] w fun e w' => e = .returned (.tuple #[.slice none 0 0, errNo (fault n L f)]) ∧ Below w.heap.size w w' := by
  have HA := Lib.hid ha
  have HN := Lib.hid h
  clear ha h
  go_enter Tryd.func49, Tryd.ntmps49
  go_wp2_with fail
  refine (matCheck_bad A n ca L f w HA.out hn HN.out).mono ?_
  rintro e w1 ⟨rfl, hb1⟩
  go_wp2_with fail
  go_ret2
  exact ⟨rfl, hb1⟩

set_option maxRecDepth 100000 in
set_option maxHeartbeats 1000000 in
theorem matMul_bad2 (A B : Option Addr) (n m ca cb : Nat) (L M : Nat → Nat) (f g : Nat → Nat → Int) (w : World) (ha : Mat w A n L f) (hb : Mat w B m M g) (hm : m ≤ 9223372036854775807) (ho : Good n L f) (h : ¬ Good m M g) :
    Calls Tryd.prog 49 #[.slice A n ca, .slice B m cb] w fun e w' => e = .returned (.tuple #[.slice none 0 0, errNo (fault m M g)]) ∧ Below w.heap.size w w' := by
  have HA := Lib.hid ha
  have HB := Lib.hid hb
  have HO := Lib.hid ho
  have HN := Lib.hid h
  clear ha hb ho h
  go_enter Tryd.func49, Tryd.ntmps49
  go_wp2_with fail
  refine (matCheck_good A n ca L f w HA.out HO.out).mono ?_
  rintro e w1 ⟨rfl, hb1⟩
  have HB1 := Lib.hid hb1
  clear hb1
  go_wp2_with fail
  refine (matCheck_bad B m cb M g w1 (HB.out.keep HB1.out) hm HN.out).mono ?_
  rintro e w2 ⟨rfl, hb2⟩
  go_wp2_with fail
  go_ret2
  exact ⟨rfl, keep HB1.out hb2⟩

set_option maxRecDepth 100000 in
set_option maxHeartbeats 1000000 in
theorem matMul_bad3 (A B : Option Addr) (n m ca cb : Nat) (L M : Nat → Nat) (f g : Nat → Nat → Int) (w : World) (ha : Mat w A n L f) (hb : Mat w B m M g) (ho : Good n L f) (hp : Good m M g) (h : n ≠ m) :
    Calls Tryd.prog 49 #[.slice A n ca, .slice B m cb] w fun e w' => e = .returned (.tuple #[.slice none 0 0, errNo 3]) ∧ Below w.heap.size w w' := by
  have HA := Lib.hid ha
  have HB := Lib.hid hb
  have hn8 : (n : Int) ≤ 8 := by have := ho.1.2.1; omega
  have hm8 : (m : Int) ≤ 8 := by have := hp.1.2.1; omega
  have hd : decide ((n : Int) = (m : Int)) = false := by
    apply decide_eq_false
    omega
  have HO := Lib.hid ho
  have HP := Lib.hid hp
  clear ha hb ho hp
  go_enter Tryd.func49, Tryd.ntmps49
  go_wp2_with fail
  refine (matCheck_good A n ca L f w HA.out HO.out).mono ?_
  rintro e w1 ⟨rfl, hb1⟩
  have HB1 := Lib.hid hb1
  clear hb1
  go_wp2_with fail
  refine (matCheck_good B m cb M g w1 (HB.out.keep HB1.out) HP.out).mono ?_
  rintro e w2 ⟨rfl, hb2⟩
  have HB2 := Lib.hid hb2
  clear hb2
  go_wp2_with fail
  go_ret2
  exact ⟨rfl, keep HB1.out HB2.out⟩

theorem matMul_good (A B : Option Addr) (n m ca cb : Nat) (L M : Nat → Nat) (a b : Nat → Nat → Int) (w : World) (ha : Mat w A n L a) (hb : Mat w B m M b) (ho : Good n L a) (hp : Good m M b) (hnm : n = m) :
    Calls Tryd.prog 49 #[.slice A n ca, .slice B m cb] w fun e w' => ∃ D c, e = .returned (.tuple #[.slice D n c, .nilIface]) ∧ Mat w' D n (fun _ => n) (mulF n a b) ∧ Below w.heap.size w w' := by
  subst hnm
  exact matMul_ok A B n ca cb a b w (ho.1.mat ha) (hp.1.mat hb) ho.1.1 ho.1.2.1 ho.2 hp.2

end Go.Proofs.YtdilajieimbdnaaDoor

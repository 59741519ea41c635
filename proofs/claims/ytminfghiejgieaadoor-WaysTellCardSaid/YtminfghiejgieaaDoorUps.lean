/- The walk of spf.Ups: by which neighbours each node is reached. -/
import Derived.Test.YtminfghiejgieaaDoorSpfFar
import Derived.Test.YtminfghiejgieaaDoorRag
import Derived.Test.YtminfghiejgieaaDoorPick
namespace Go.Proofs.YtminfghiejgieaaDoor
open Go.RowKit
set_option linter.unusedVariables false

/-- Does k lead on to i, as seen from t? -/
def upB (t : Nat) (K : Nat → Nat → Int) (D : Nat → Int) (i k : Nat) : Bool := decide (i ≠ t ∧ k ≠ i ∧ D i < 16 ∧ D k + K k i = D i)

/-- Who leads on to i. -/
def upsL (n t : Nat) (K : Nat → Nat → Int) (D : Nat → Int) (i : Nat) : List Int := pickL (upB t K D i) n

set_option maxRecDepth 100000 in
set_option maxHeartbeats 1000000 in
theorem spfUps_bad (x y : Int) (A : Option Addr) (m cp : Nat) (a b c : Nat → Int) (w : World) (hl : Lnk w A m a b c) (hm : m ≤ 9223372036854775807) (v : Int) (h : FaultG x m a b c v ∨ (GoodG x m a b c ∧ (y < 0 ∨ x ≤ y) ∧ v = 1)) :
    Calls Tryd.prog 62 #[.int .i64 x, .slice A m cp, .int .i64 y] w fun e w' => e = .returned (.tuple #[.slice none 0 0, errNo v]) ∧ Below w.heap.size w w' := by
  have HL := Lib.hid hl
  have HF := Lib.hid h
  clear hl h
  go_enter Tryd.func62, Tryd.ntmps62
  go_wp2_with fail
  refine (spfFar_bad x y A m cp a b c w HL.out hm v HF.out).mono ?_
  rintro e w1 ⟨rfl, hb1⟩
  go_wp2_with fail
  go_ret2
  exact ⟨rfl, hb1⟩

set_option maxRecDepth 100000 in
set_option maxHeartbeats 4000000 in
theorem spfUps_ok (n t : Nat) (x y : Int) (hx : x = (n : Int)) (hy : y = (t : Int)) (A : Option Addr) (m cp : Nat) (a b c : Nat → Int) (w : World) (hl : Lnk w A m a b c) (hm : m ≤ 9223372036854775807) (hg : GoodG x m a b c) (ht : t < n) :
    Calls Tryd.prog 62 #[.int .i64 x, .slice A m cp, .int .i64 y] w fun e w' => ∃ v, e = .returned (.tuple #[v, .nilIface]) ∧
      Rag w' w.heap.size v n (fun i => (upsL n t (costF m a b c) (endF t a b c m) i).length) (fun i => atL (upsL n t (costF m a b c) (endF t a b c m) i)) ∧ Below w.heap.size w w' := by
  subst hx
  subst hy
  have h1 : 1 ≤ n := by have := hg.1; omega
  have h8 : n ≤ 8 := by have := hg.2.1; omega
  have hR : Right n m a b c := by simpa using hg.2.2
  have HL := Lib.hid hl
  have HG := Lib.hid hg
  have HR := Lib.hid hR
  have h1' : (1 : Int) ≤ n := by omega
  have h8' : (n : Int) ≤ 8 := by omega
  clear hl hg hR
  go_enter Tryd.func62, Tryd.ntmps62
  go_wp2_with fail
  have hcall := spfFar_ok n t n t rfl rfl A m cp a b c w HL.out hm HG.out ht
  refine hcall.mono ?_
  clear hcall
  rintro e w1 ⟨gf, rfl, -, hrow, hb1⟩
  have HX := Lib.hid hrow
  have HB1 := Lib.hid hb1
  clear hrow hb1
  go_wp2_with fail
  have hcall := costs_ok n n rfl A m cp a b c w1 (HL.out.keep HB1.out) hm HG.out
  refine hcall.mono ?_
  clear hcall
  rintro e w2 ⟨g, cg, B, C, rfl, -, hat, hb2⟩
  obtain ⟨g', cg', e, -, hgl, hgc, -⟩ := hat.cells h1
  have eg : g = g' := by
    simp only [Value.slice.injEq, Option.some.injEq, Addr.mk.injEq] at e
    exact e.1.1
  subst eg
  have HGC := Lib.hid hgc
  have HGL := Lib.hid hgl
  have HAT := Lib.hid hat
  have HX2 := Lib.hid (HX.out.below hb2 HX.out.lt)
  have HB2 := Lib.hid (keep HB1.out hb2)
  clear hat hgc hgl e hb2 HB1 HX
  go_wp2_with fail
  go_loopw [12, 35] (fun v q wr => ∃ i : Nat, i ≤ n ∧ q = .int .i64 i ∧ Rag wr w2.heap.size v i (fun i => (upsL n t (costF m a b c) (endF t a b c m) i).length) (fun i => atL (upsL n t (costF m a b c) (endF t a b c m) i)) ∧ Below w2.heap.size w2 wr) (fun _ q _ => n - (intOf q).toNat)
  case atStart => exact ⟨0, by omega, rfl, Rag.nil _ _ _ _, Below.refl _ _⟩
  case round =>
    obtain ⟨i, hi, rfl, hT, hb⟩ := hrel
    have HT := Lib.hid hT
    have HB := Lib.hid hb
    clear hT hb
    obtain ⟨wo, hwo⟩ : ∃ wo : World, wo = wr := ⟨_, rfl⟩
    rw [← hwo] at HT HB ⊢
    clear hwo
    by_cases hlt : i < n
    · have hlt' : (i : Int) < n := by omega
      have ci := (HX2.out.below HB.out HX2.out.lt).cell hlt
      obtain ⟨di, hdi⟩ : ∃ di, endF t a b c m i = di := ⟨_, rfl⟩
      have HDI := Lib.hid hdi
      have hdr : 0 ≤ di ∧ di ≤ 16 := by rw [← hdi]; exact end_ranged (t := t) HR.out i hlt
      rw [hdi] at ci
      clear hdi
      go_wp2_with fail
      go_loopw [15, 42] (fun u q wi => ∃ k : Nat, k ≤ n ∧ q = .int .i64 k ∧ OwnV wi wo.heap.size u (pickL (upB t (costF m a b c) (endF t a b c m) i) k).length (atL (pickL (upB t (costF m a b c) (endF t a b c m) i) k)) ∧ Below wo.heap.size wo wi) (fun _ q _ => n - (intOf q).toNat)
      case atStart => exact ⟨0, by omega, rfl, OwnV.nil _ _ _, Below.refl _ _⟩
      case round =>
        obtain ⟨k, hk, rfl, hU, hb⟩ := hrel
        have HU := Lib.hid hU
        have HBI := Lib.hid (keep HB.out hb)
        have HBW := Lib.hid hb
        clear hU hb ci
        by_cases hkt : k < n
        · have hkt' : (k : Int) < n := by omega
          have hlen := pickL_len (upB t (costF m a b c) (endF t a b c m) i) k
          by_cases hit : i = t
          · have e2 : ((i : Int) == (t : Int)) = true := by simp [hit]
            have e1 : (i == t) = true := by simp [hit]
            have e3 : ((i : Int) != (t : Int)) = false := by simp [hit]
            have e4 : (i != t) = false := by simp [hit]
            have HP : Hid (pickL (upB t (costF m a b c) (endF t a b c m) i) (k + 1) = pickL (upB t (costF m a b c) (endF t a b c m) i) k) := pickL_no (by unfold upB; simp [hit])
            clear hit hlen
            go_wp2_with fail
            go_quiet (fail)
            go_wp2_with fail
            go_roundw
            case rel => exact ⟨k + 1, by omega, by go_num, by rw [HP.out]; exact HU.out.drewN _, below_drewN HBW.out _⟩
            case measure => simp [intOf]; omega
          · have e2 : ((i : Int) == (t : Int)) = false := beq_false_of_ne (by omega)
            have e1 : (i == t) = false := beq_false_of_ne hit
            have e3 : ((i : Int) != (t : Int)) = true := bne_iff_ne.2 (by omega)
            have e4 : (i != t) = true := bne_iff_ne.2 hit
            by_cases hki : k = i
            · have f2 : ((k : Int) == (i : Int)) = true := by simp [hki]
              have f1 : (k == i) = true := by simp [hki]
              have f3 : ((k : Int) != (i : Int)) = false := by simp [hki]
              have f4 : (k != i) = false := by simp [hki]
              have HP : Hid (pickL (upB t (costF m a b c) (endF t a b c m) i) (k + 1) = pickL (upB t (costF m a b c) (endF t a b c m) i) k) := pickL_no (by unfold upB; simp [hki])
              clear hit hki hlen
              go_wp2_with fail
              go_quiet (fail)
              go_wp2_with fail
              go_roundw
              case rel => exact ⟨k + 1, by omega, by go_num, by rw [HP.out]; exact HU.out.drewN _, below_drewN HBW.out _⟩
              case measure => simp [intOf]; omega
            · have f2 : ((k : Int) == (i : Int)) = false := beq_false_of_ne (by omega)
              have f1 : (k == i) = false := beq_false_of_ne hki
              have f3 : ((k : Int) != (i : Int)) = true := bne_iff_ne.2 (by omega)
              have f4 : (k != i) = true := bne_iff_ne.2 hki
              by_cases h16 : di < 16
              · have ck := (HX2.out.below HBI.out HX2.out.lt).cell hkt
                have cg0 := (HBI.out.cell (p := ⟨g, k, none⟩) HGL.out).trans (HGC.out k hkt)
                have hrw := (HAT.out.row k hkt).2
                have cr := (hrw.below HBI.out hrw.lt).cell hlt
                obtain ⟨hk0, hk1⟩ := end_ranged (t := t) HR.out k hkt
                obtain ⟨hc0, hc1⟩ := costV_ranged HR.out k i
                have hc0 : 0 ≤ costF m a b c k i := hc0
                have hc1 : costF m a b c k i ≤ 16 := hc1
                clear hrw
                by_cases hs : endF t a b c m k + costF m a b c k i = di
                · have hw : IntKind.i64.wrap (endF t a b c m k + costF m a b c k i) = endF t a b c m k + costF m a b c k i := IntWalk.i64_in _ (by omega)
                  have g1 : (endF t a b c m k + costF m a b c k i == di) = true := by simp [hs]
                  have HP : Hid (pickL (upB t (costF m a b c) (endF t a b c m) i) (k + 1) = pickL (upB t (costF m a b c) (endF t a b c m) i) k ++ [(k : Int)]) := pickL_yes (by unfold upB; rw [HDI.out]; simp [hs, hit, hki, h16])
                  clear hit hki hs
                  go_wp2_with fail
                  go_quiet (fail)
                  have HU2 := Lib.hid (HU.out.drewN nq)
                  have HB2' := Lib.hid (below_drewN HBW.out nq)
                  obtain ⟨wq, hwq⟩ : ∃ wq, wr.drewN nq = wq := ⟨_, rfl⟩
                  rw [hwq] at HU2 HB2' ⊢
                  clear hwq hw ck cg0 cr HU HBI HBW
                  go_wp2_with (at_builtin; refine wpList_append_int rfl (.tmp 73) (.tmp 75) rfl wo.heap.size _ _ _ rfl (HU2.out.alloc _) k _ rfl (cell_new_at _ _ _ rfl) (by omega) (by have := HB2'.out.size; simp; omega) ?_)
                  intro g3 cap3 w3 hT3 hb3 _ _
                  have HT3 : Hid (OwnV w3 wo.heap.size (.slice (some ⟨g3, 0, none⟩) ((pickL (upB t (costF m a b c) (endF t a b c m) i) k).length + 1) cap3) (pickL (upB t (costF m a b c) (endF t a b c m) i) (k + 1)).length (atL (pickL (upB t (costF m a b c) (endF t a b c m) i) (k + 1)))) := by
                    rw [HP.out, List.length_append]
                    exact OwnV.congr hT3 (atL_snoc _ _)
                  have HB3 : Hid (Below wo.heap.size wo w3) := (HB2'.out.alloc HB2'.out.size _).trans hb3
                  clear hT3 hb3 hlen
                  go_wp2_with fail
                  go_roundw
                  case rel => exact ⟨k + 1, by omega, by go_num, HT3.out, HB3.out⟩
                  case measure => simp [intOf]; omega
                · have hw : IntKind.i64.wrap (endF t a b c m k + costF m a b c k i) = endF t a b c m k + costF m a b c k i := IntWalk.i64_in _ (by omega)
                  have g1 : (endF t a b c m k + costF m a b c k i == di) = false := beq_false_of_ne hs
                  have HP : Hid (pickL (upB t (costF m a b c) (endF t a b c m) i) (k + 1) = pickL (upB t (costF m a b c) (endF t a b c m) i) k) := pickL_no (by unfold upB; rw [HDI.out]; simp [hs])
                  clear hit hki hs hlen
                  go_wp2_with fail
                  go_quiet (fail)
                  go_wp2_with fail
                  go_roundw
                  case rel => exact ⟨k + 1, by omega, by go_num, by rw [HP.out]; exact HU.out.drewN _, below_drewN HBW.out _⟩
                  case measure => simp [intOf]; omega
              · have g1 : decide (di < 16) = false := decide_eq_false h16
                have HP : Hid (pickL (upB t (costF m a b c) (endF t a b c m) i) (k + 1) = pickL (upB t (costF m a b c) (endF t a b c m) i) k) := pickL_no (by unfold upB; rw [HDI.out]; simp [h16])
                clear hit hki h16 hlen
                go_wp2_with fail
                go_quiet (fail)
                go_wp2_with fail
                go_roundw
                case rel => exact ⟨k + 1, by omega, by go_num, by rw [HP.out]; exact HU.out.drewN _, below_drewN HBW.out _⟩
                case measure => simp [intOf]; omega
        · have ek : k = n := by omega
          subst ek
          obtain ⟨Au, cu, rfl, -⟩ := HU.out.vec
          have HSW := HB.out.size
          have HSI := HBI.out.size
          go_wp2_with (at_builtin; refine wpList_append_rag rfl (.tmp 78) (.tmp 80) rfl w2.heap.size _ i (fun i => (upsL k t (costF m a b c) (endF t a b c m) i).length) (fun i => atL (upsL k t (costF m a b c) (endF t a b c m) i)) rfl ((HT.out.below HBW.out).alloc _) _ ((HU.out.alloc _).lift HSW) _ rfl (cell_new_at _ _ _ rfl) (by omega) (by simp; omega) ?_)
          intro v3 w3 hT3 hb3
          have HT3 := Lib.hid hT3
          have HB3 : Hid (Below w2.heap.size w2 w3) := (HBI.out.alloc HBI.out.size _).trans hb3
          clear hT3 hb3
          go_wp2_with fail
          go_roundw
          case rel => exact ⟨i + 1, by omega, by go_num, HT3.out, HB3.out⟩
          case measure => simp [intOf]; omega
    · have ei : i = n := by omega
      subst ei
      go_wp2_with fail
      go_ret2
      exact ⟨_, rfl, HT.out.lift HB2.out.size, keep HB2.out HB.out⟩

end Go.Proofs.YtminfghiejgieaaDoor

/- LinePoison: with poison no two neighbours think of each other as the next one to a third. For all arguments. Printed by gen_linepoison.py. -/
import Derived.Test.YtbepfmcaolmhgaaDoorLineCounts
import Derived.Test.YtbepfmcaolmhgaaDoorLineCutAny
import Derived.Test.YtbepfmcaolmhgaaDoorRag
namespace Go.Proofs.YtbepfmcaolmhgaaDoor
open Go.RowKit
set_option linter.unusedVariables false

theorem Rag.keepO {w w' : World} {base i : Nat} {v : Value} {L : Nat → Nat} {f : Nat → Nat → Int} (h : Rag w base v i L f) (k : KeepO w w') : Rag w' base v i L f := by
  obtain ⟨V, h1, h2⟩ := h
  exact ⟨V, own_keepO h1 k (by decide) (by decide), fun r hr => own_keepO (h2 r hr) k (by decide) (by decide)⟩
theorem next_cases {po : Bool} {n t : Nat} {K : Nat → Nat → Int} {f g f' g' : Nat → Int} (h : StepR po n t K f g f' g') {i : Nat} (hi : i < n) : g' i = -1 ∨ ∃ q : Nat, q < n ∧ g' i = (q : Int) := by
  by_cases e : i = t
  · subst e; exact .inl h.self.2
  · rcases h.is i hi e with ⟨-, h2⟩ | ⟨k, hk, -, -, h3, -⟩
    · exact .inl h2
    · exact .inr ⟨k, hk, h3⟩

set_option maxRecDepth 100000 in
set_option maxHeartbeats 8000000 in
theorem linePoison_walk (x : Int) (A : Option Addr) (m cap : Nat) (a b c : Nat → Int) (D : Option Addr) (K cd : Nat) (f : Nat → Int) (w : World) (hN : NobT w) (hl : Lnk w A m a b c) (hm : m ≤ 9223372036854775807) (hv : Vec w D K f) (hK : K ≤ 9223372036854775807) :
    Calls Tryd.prog 3 #[.int .i64 x, .slice A m cap, .slice D K cd] w fun e w' => e = .returned (.bool true) ∧ Below w.heap.size w w' := by
  have HL := Lib.hid hl
  have HN := Lib.hid hN
  have HV := Lib.hid hv
  have HGL := Lib.hid (World.block_lt_of_cell? w _ hN.1)
  clear hl hN hv
  go_enter Tryd.func3, Tryd.ntmps3
  go_wp2_with fail
  refine (lined_walk w HN.out).mono ?_
  rintro e w1 ⟨rfl, hb1⟩
  have HB1 := Lib.hid hb1
  clear hb1
  go_wp2_with fail
  rcases graph_cases x m a b c with hg | ⟨v, -, hf⟩
  · obtain ⟨n, rfl, hn1, hn8, hr⟩ := good_nat hg
    have hn8' : (n : Int) ≤ 8 := by omega
    have HG := Lib.hid hg
    have HR := Lib.hid hr
    clear hg hr
    have hcall := lineNew_ok n n rfl A m cap true a b c w1 (HN.out.keep HB1.out) (HL.out.keep HB1.out) hm HG.out
    refine hcall.mono ?_
    clear hcall
    rintro e w2 ⟨s, rfl, hL, hb2⟩
    have HL2 : Hid (LineH w2 w1.heap.size s true n m a b c (fun i t => (startS i t).1) (fun i t => (startS i t).2)) := hL
    have HB2 := Lib.hid hb2
    have HNL : Hid (0 < w1.heap.size) := Nat.lt_of_lt_of_le HGL.out HB1.out.size
    clear hL hb2 HGL
    go_wp2_with fail
    go_loopw [10] (fun q wr => ∃ k : Nat, k ≤ K ∧ q = .int .i64 k ∧ ∃ (m' : Nat) (a' b' c' : Nat → Int) (S : Nat → Nat → Int × Int), m' ≤ 9223372036854775807 ∧ Right n m' a' b' c' ∧ (∀ k t, k < n → t < n → 0 ≤ (S k t).1 ∧ (S k t).1 ≤ 16) ∧ LineH wr w1.heap.size s true n m' a' b' c' (fun i t => (S i t).1) (fun i t => (S i t).2) ∧ Below w1.heap.size w1 wr) (fun q _ => K - (intOf q).toNat)
    case atStart => exact ⟨0, by omega, rfl, m, a, b, c, startS, hm, HR.out, startS_ranged, HL2.out, HB2.out⟩
    case round =>
      obtain ⟨k, hk, rfl, m', a', b', c', S, hm', hr', hS, hL, hb⟩ := hrel
      have HL3 := Lib.hid hL
      have HB3 := Lib.hid hb
      have HR3 := Lib.hid hr'
      have HS3 := Lib.hid hS
      have HM3 := Lib.hid hm'
      clear hL hb hr' hS hm' HL2 HB2
      by_cases hkK : k < K
      · have hkK' : (k : Int) < K := by omega
        obtain ⟨ac, rfl, hacl, hac⟩ := (HV.out.keep (keep HB1.out HB3.out)) k hkK
        obtain ⟨z, hz⟩ : ∃ z, f k = z := ⟨_, rfl⟩
        rw [hz] at hac
        clear hz
        rcases (show z < 0 ∨ (0 ≤ z ∧ (m : Int) ≤ z) ∨ (0 ≤ z ∧ z < m) by omega) with hz | ⟨hz0, hz1⟩ | ⟨hz0, hz1⟩
        · have hd1 : decide (0 ≤ z) = false := decide_eq_false (by omega)
          have HL4 := Lib.hid HL3.out
          have HB4 := Lib.hid HB3.out
          have HR4 := Lib.hid HR3.out
          have HS4 := Lib.hid HS3.out
          have HM4 := Lib.hid HM3.out
          clear HL3 HB3 HR3 HS3 HM3
          obtain ⟨wo, hwo⟩ : ∃ wo : World, wo = wr := ⟨_, rfl⟩
          rw [← hwo] at HL4 HB4 hac ⊢
          clear hwo
          go_wp2_with fail
          go_loopw [11, 12] (fun v q wi => ∃ i : Nat, i ≤ n ∧ q = .int .i64 i ∧ Rag wi wo.heap.size v i (fun _ => n) (fun r t => (S r t).2) ∧ Below wo.heap.size wo wi) (fun _ q _ => n - (intOf q).toNat)
          case atStart => exact ⟨0, by omega, rfl, Rag.nil _ _ _ _, Below.refl _ _⟩
          case round =>
            obtain ⟨i, hi, rfl, hT, hb⟩ := hrel
            have HT := Lib.hid hT
            have HB5 := Lib.hid hb
            clear hT hb
            by_cases hin : i < n
            · have hin' : (i : Int) < n := by omega
              go_wp2_with fail
              have hcall := lineNext_ok s n m' i i rfl _ true a' b' c' _ _ wr (HL4.out.below HB5.out) hin hn8
              refine hcall.mono ?_
              clear hcall
              rintro e w6 ⟨v6, rfl, hV6, hb6⟩
              obtain ⟨A6, c6, rfl, -⟩ := hV6.vec
              have HV6 := Lib.hid (hV6.lift HB5.out.size)
              have HT6 := Lib.hid (HT.out.below hb6)
              have HB6 := Lib.hid (keep HB5.out hb6)
              clear hV6 hb6 HT HB5
              go_wp2_with (at_builtin; refine wpList_append_rag rfl (.tmp 87) (.tmp 89) rfl wo.heap.size _ i (fun _ => n) (fun r t => (S r t).2) rfl (HT6.out.alloc _) _ (HV6.out.alloc _) _ rfl (cell_new_at _ _ _ rfl) (by omega) (by have := HB6.out.size; simp; omega) ?_)
              intro v7 w7 hT7 hb7
              have HT7 := Lib.hid hT7
              have HB7 : Hid (Below wo.heap.size wo w7) := (HB6.out.alloc HB6.out.size _).trans hb7
              clear hT7 hb7 HT6 HB6 HV6
              go_wp2_with fail
              go_roundw
              case rel => exact ⟨i + 1, by omega, by go_num, HT7.out, HB7.out⟩
              case measure => simp [intOf]; omega
            · have ei : i = n := by omega
              subst ei
              have HLW := Lib.hid (keep HB1.out (HB4.out.trans (HB5.out.mono HB4.out.size)))
              have hcall := lineStep s i m' w1.heap.size true a' b' c' _ _ wr (HN.out.keep HLW.out) (HL4.out.below HB5.out) hn1 hn8 HM4.out HR4.out HS4.out (Nat.le_trans HB4.out.size HB5.out.size)
              have HC := Lib.hid hcall
              clear hcall HLW
              go_wp2_with fail
              refine HC.out.mono ?_
              rintro e w8 ⟨rfl, hL8, hb8⟩
              obtain ⟨S', hS'⟩ : ∃ S' : Nat → Nat → Int × Int, (fun p t => thinkF true i t (costF m' a' b' c') (fun k => (S k t).1) (fun k => (S k t).2) p) = S' := ⟨_, rfl⟩
              have HST : Hid (∀ t, StepR true i t (costF m' a' b' c') (fun k => (S k t).1) (fun k => (S k t).2) (fun k => (S' k t).1) (fun k => (S' k t).2)) := fun t => by
                rw [← hS']
                exact think_step
              have HL8 : Hid (LineH w8 w1.heap.size s true i m' a' b' c' (fun p t => (S' p t).1) (fun p t => (S' p t).2)) := by
                rw [← hS']
                exact hL8
              have HS8 : Hid (∀ k t, k < i → t < i → 0 ≤ (S' k t).1 ∧ (S' k t).1 ≤ 16) := fun k t hk ht => (HST.out t).ranged (cost_m HR4.out) (fun k hk => HS4.out k t hk ht) k hk
              have HB8 : Hid (Below w1.heap.size w1 w8) := (HB4.out.trans (HB5.out.mono HB4.out.size)).trans hb8.bel
              obtain ⟨T8, c8, rfl, hmt⟩ := (HT.out.keepO hb8.keep).mat
              have HMT := Lib.hid hmt
              clear hS' hL8 hb8 hmt HC HT HB5 HL4 HB4 HS4
              go_wp2_with fail
              go_loopw [15] (fun q wi => ∃ p : Nat, p ≤ i ∧ q = .int .i64 p ∧ Below w8.heap.size w8 wi) (fun q _ => i - (intOf q).toNat)
              case atStart => exact ⟨0, by omega, rfl, Below.refl _ _⟩
              case round =>
                obtain ⟨p, hp, rfl, hb⟩ := hrel
                have HB9 := Lib.hid hb
                clear hb
                by_cases hpi : p < i
                · have hpi' : (p : Int) < i := by omega
                  go_wp2_with fail
                  have hcall := lineNext_ok s i m' p p rfl _ true a' b' c' _ _ wr (HL8.out.below HB9.out) hpi hn8
                  refine hcall.mono ?_
                  clear hcall
                  rintro e w10 ⟨v10, rfl, hV10, hb10⟩
                  obtain ⟨A10, c10, rfl, hv10⟩ := hV10.vec
                  have HV10 := Lib.hid hv10
                  have HB10 := Lib.hid (keep HB9.out hb10)
                  clear hV10 hv10 hb10 HB9
                  go_wp2_with fail
                  go_loopw [18] (fun q wi => ∃ k : Nat, k ≤ i ∧ q = .int .i64 k ∧ ∃ d, wi = w10.drewN d) (fun q _ => i - (intOf q).toNat)
                  case atStart => exact ⟨0, by omega, rfl, 0, rfl⟩
                  case round =>
                    obtain ⟨k, hk, rfl, d0, rfl⟩ := hrel
                    by_cases hki : k < i
                    · have hki' : (k : Int) < i := by omega
                      obtain ⟨ap, rfl, hapl, cp⟩ := HV10.out k hki
                      obtain ⟨pv, hpv⟩ : ∃ pv, (S' p k).2 = pv := ⟨_, rfl⟩
                      have hcase : pv = -1 ∨ ∃ q : Nat, q < i ∧ pv = q ∧ (S q k).2 ≠ (p : Int) := by
                        rcases next_cases (HST.out k) hpi with h | ⟨q, hq, h⟩
                        · exact .inl (hpv ▸ h)
                        · exact .inr ⟨q, hq, hpv ▸ h, (HST.out k).notBack (cost_m HR4.out) hpi h⟩
                      have cp : (w10.drewN d0).cell? (ap.add k) = some (.int .i64 (S' p k).2) := cp
                      rw [hpv] at cp
                      clear hapl hpv
                      rcases hcase with rfl | ⟨q, hq, rfl, hne⟩
                      · go_wp2_with fail
                        go_roundw
                        case rel => exact ⟨k + 1, by omega, by go_num, _, rfl⟩
                        case measure => simp [intOf]; omega
                      · obtain ⟨at1, Aq, cq, rfl, -, crow, hvq⟩ := (HMT.out.keep HB10.out) q hq
                        obtain ⟨aq, rfl, -, cq2⟩ := hvq k hki
                        have hq' : (q : Int) < i := by omega
                        obtain ⟨was, hwas⟩ : ∃ was, (S q k).2 = was := ⟨_, rfl⟩
                        have cq2 : (w10.drewN d0).cell? (aq.add k) = some (.int .i64 (S q k).2) := cq2
                        have crow : (w10.drewN d0).cell? (at1.add q) = some (.slice (some aq) i cq) := crow
                        rw [hwas] at cq2 hne
                        have hd : (was == (p : Int)) = false := beq_false_of_ne hne
                        clear hvq hwas hne
                        go_wp2_with fail
                        go_roundw
                        case rel => exact ⟨k + 1, by omega, by go_num, _, rfl⟩
                        case measure => simp [intOf]; omega
                    · have ek : k = i := by omega
                      subst ek
                      go_wp2_with fail
                      go_roundw
                      case rel => exact ⟨p + 1, by omega, by go_num, below_drewN HB10.out _⟩
                      case measure => simp [intOf]; omega
                · have ep : p = i := by omega
                  subst ep
                  have HB11 := Lib.hid (HB8.out.trans (HB9.out.mono HB8.out.size))
                  have HL11 := Lib.hid (HL8.out.below HB9.out)
                  clear HL8 HB9 HB8 HMT HST
                  go_wp2_with fail
                  go_roundw
                  case rel => exact ⟨k + 1, by omega, by go_num, m', a', b', c', S', HM4.out, HR4.out, HS8.out, HL11.out, HB11.out⟩
                  case measure => simp [intOf]; omega
        · have hd1 : decide (0 ≤ z) = true := decide_eq_true (by omega)
          have hd2 : decide (z < (m : Int)) = false := decide_eq_false (by omega)
          have HL4 := Lib.hid HL3.out
          have HB4 := Lib.hid HB3.out
          have HR4 := Lib.hid HR3.out
          have HS4 := Lib.hid HS3.out
          have HM4 := Lib.hid HM3.out
          clear HL3 HB3 HR3 HS3 HM3
          obtain ⟨wo, hwo⟩ : ∃ wo : World, wo = wr := ⟨_, rfl⟩
          rw [← hwo] at HL4 HB4 hac ⊢
          clear hwo
          go_wp2_with fail
          go_loopw [11, 12] (fun v q wi => ∃ i : Nat, i ≤ n ∧ q = .int .i64 i ∧ Rag wi wo.heap.size v i (fun _ => n) (fun r t => (S r t).2) ∧ Below wo.heap.size wo wi) (fun _ q _ => n - (intOf q).toNat)
          case atStart => exact ⟨0, by omega, rfl, Rag.nil _ _ _ _, Below.refl _ _⟩
          case round =>
            obtain ⟨i, hi, rfl, hT, hb⟩ := hrel
            have HT := Lib.hid hT
            have HB5 := Lib.hid hb
            clear hT hb
            by_cases hin : i < n
            · have hin' : (i : Int) < n := by omega
              go_wp2_with fail
              have hcall := lineNext_ok s n m' i i rfl _ true a' b' c' _ _ wr (HL4.out.below HB5.out) hin hn8
              refine hcall.mono ?_
              clear hcall
              rintro e w6 ⟨v6, rfl, hV6, hb6⟩
              obtain ⟨A6, c6, rfl, -⟩ := hV6.vec
              have HV6 := Lib.hid (hV6.lift HB5.out.size)
              have HT6 := Lib.hid (HT.out.below hb6)
              have HB6 := Lib.hid (keep HB5.out hb6)
              clear hV6 hb6 HT HB5
              go_wp2_with (at_builtin; refine wpList_append_rag rfl (.tmp 87) (.tmp 89) rfl wo.heap.size _ i (fun _ => n) (fun r t => (S r t).2) rfl (HT6.out.alloc _) _ (HV6.out.alloc _) _ rfl (cell_new_at _ _ _ rfl) (by omega) (by have := HB6.out.size; simp; omega) ?_)
              intro v7 w7 hT7 hb7
              have HT7 := Lib.hid hT7
              have HB7 : Hid (Below wo.heap.size wo w7) := (HB6.out.alloc HB6.out.size _).trans hb7
              clear hT7 hb7 HT6 HB6 HV6
              go_wp2_with fail
              go_roundw
              case rel => exact ⟨i + 1, by omega, by go_num, HT7.out, HB7.out⟩
              case measure => simp [intOf]; omega
            · have ei : i = n := by omega
              subst ei
              have HLW := Lib.hid (keep HB1.out (HB4.out.trans (HB5.out.mono HB4.out.size)))
              have hcall := lineStep s i m' w1.heap.size true a' b' c' _ _ wr (HN.out.keep HLW.out) (HL4.out.below HB5.out) hn1 hn8 HM4.out HR4.out HS4.out (Nat.le_trans HB4.out.size HB5.out.size)
              have HC := Lib.hid hcall
              clear hcall HLW
              go_wp2_with fail
              refine HC.out.mono ?_
              rintro e w8 ⟨rfl, hL8, hb8⟩
              obtain ⟨S', hS'⟩ : ∃ S' : Nat → Nat → Int × Int, (fun p t => thinkF true i t (costF m' a' b' c') (fun k => (S k t).1) (fun k => (S k t).2) p) = S' := ⟨_, rfl⟩
              have HST : Hid (∀ t, StepR true i t (costF m' a' b' c') (fun k => (S k t).1) (fun k => (S k t).2) (fun k => (S' k t).1) (fun k => (S' k t).2)) := fun t => by
                rw [← hS']
                exact think_step
              have HL8 : Hid (LineH w8 w1.heap.size s true i m' a' b' c' (fun p t => (S' p t).1) (fun p t => (S' p t).2)) := by
                rw [← hS']
                exact hL8
              have HS8 : Hid (∀ k t, k < i → t < i → 0 ≤ (S' k t).1 ∧ (S' k t).1 ≤ 16) := fun k t hk ht => (HST.out t).ranged (cost_m HR4.out) (fun k hk => HS4.out k t hk ht) k hk
              have HB8 : Hid (Below w1.heap.size w1 w8) := (HB4.out.trans (HB5.out.mono HB4.out.size)).trans hb8.bel
              obtain ⟨T8, c8, rfl, hmt⟩ := (HT.out.keepO hb8.keep).mat
              have HMT := Lib.hid hmt
              clear hS' hL8 hb8 hmt HC HT HB5 HL4 HB4 HS4
              go_wp2_with fail
              go_loopw [15] (fun q wi => ∃ p : Nat, p ≤ i ∧ q = .int .i64 p ∧ Below w8.heap.size w8 wi) (fun q _ => i - (intOf q).toNat)
              case atStart => exact ⟨0, by omega, rfl, Below.refl _ _⟩
              case round =>
                obtain ⟨p, hp, rfl, hb⟩ := hrel
                have HB9 := Lib.hid hb
                clear hb
                by_cases hpi : p < i
                · have hpi' : (p : Int) < i := by omega
                  go_wp2_with fail
                  have hcall := lineNext_ok s i m' p p rfl _ true a' b' c' _ _ wr (HL8.out.below HB9.out) hpi hn8
                  refine hcall.mono ?_
                  clear hcall
                  rintro e w10 ⟨v10, rfl, hV10, hb10⟩
                  obtain ⟨A10, c10, rfl, hv10⟩ := hV10.vec
                  have HV10 := Lib.hid hv10
                  have HB10 := Lib.hid (keep HB9.out hb10)
                  clear hV10 hv10 hb10 HB9
                  go_wp2_with fail
                  go_loopw [18] (fun q wi => ∃ k : Nat, k ≤ i ∧ q = .int .i64 k ∧ ∃ d, wi = w10.drewN d) (fun q _ => i - (intOf q).toNat)
                  case atStart => exact ⟨0, by omega, rfl, 0, rfl⟩
                  case round =>
                    obtain ⟨k, hk, rfl, d0, rfl⟩ := hrel
                    by_cases hki : k < i
                    · have hki' : (k : Int) < i := by omega
                      obtain ⟨ap, rfl, hapl, cp⟩ := HV10.out k hki
                      obtain ⟨pv, hpv⟩ : ∃ pv, (S' p k).2 = pv := ⟨_, rfl⟩
                      have hcase : pv = -1 ∨ ∃ q : Nat, q < i ∧ pv = q ∧ (S q k).2 ≠ (p : Int) := by
                        rcases next_cases (HST.out k) hpi with h | ⟨q, hq, h⟩
                        · exact .inl (hpv ▸ h)
                        · exact .inr ⟨q, hq, hpv ▸ h, (HST.out k).notBack (cost_m HR4.out) hpi h⟩
                      have cp : (w10.drewN d0).cell? (ap.add k) = some (.int .i64 (S' p k).2) := cp
                      rw [hpv] at cp
                      clear hapl hpv
                      rcases hcase with rfl | ⟨q, hq, rfl, hne⟩
                      · go_wp2_with fail
                        go_roundw
                        case rel => exact ⟨k + 1, by omega, by go_num, _, rfl⟩
                        case measure => simp [intOf]; omega
                      · obtain ⟨at1, Aq, cq, rfl, -, crow, hvq⟩ := (HMT.out.keep HB10.out) q hq
                        obtain ⟨aq, rfl, -, cq2⟩ := hvq k hki
                        have hq' : (q : Int) < i := by omega
                        obtain ⟨was, hwas⟩ : ∃ was, (S q k).2 = was := ⟨_, rfl⟩
                        have cq2 : (w10.drewN d0).cell? (aq.add k) = some (.int .i64 (S q k).2) := cq2
                        have crow : (w10.drewN d0).cell? (at1.add q) = some (.slice (some aq) i cq) := crow
                        rw [hwas] at cq2 hne
                        have hd : (was == (p : Int)) = false := beq_false_of_ne hne
                        clear hvq hwas hne
                        go_wp2_with fail
                        go_roundw
                        case rel => exact ⟨k + 1, by omega, by go_num, _, rfl⟩
                        case measure => simp [intOf]; omega
                    · have ek : k = i := by omega
                      subst ek
                      go_wp2_with fail
                      go_roundw
                      case rel => exact ⟨p + 1, by omega, by go_num, below_drewN HB10.out _⟩
                      case measure => simp [intOf]; omega
                · have ep : p = i := by omega
                  subst ep
                  have HB11 := Lib.hid (HB8.out.trans (HB9.out.mono HB8.out.size))
                  have HL11 := Lib.hid (HL8.out.below HB9.out)
                  clear HL8 HB9 HB8 HMT HST
                  go_wp2_with fail
                  go_roundw
                  case rel => exact ⟨k + 1, by omega, by go_num, m', a', b', c', S', HM4.out, HR4.out, HS8.out, HL11.out, HB11.out⟩
                  case measure => simp [intOf]; omega
        · obtain ⟨j, rfl⟩ : ∃ j : Nat, z = j := ⟨z.toNat, by omega⟩
          have hj : j < m := by omega
          have hjm : (j : Int) < m := by omega
          clear hz0 hz1
          obtain ⟨hpn, hsn, hps, -, -, ea, eb⟩ := right_nat HR.out hj
          have HLW := Lib.hid (keep HB1.out HB3.out)
          obtain ⟨ad, rfl, hc0, hc1, -⟩ := HL.out.cells HLW.out j hj
          obtain ⟨P, hP⟩ : ∃ P, nA a j = P := ⟨_, rfl⟩
          obtain ⟨Q, hQ⟩ : ∃ Q, nA b j = Q := ⟨_, rfl⟩
          rw [ea, hP] at hc0
          rw [eb, hQ] at hc1
          rw [hP] at hpn hps
          rw [hQ] at hsn hps
          clear ea eb hP hQ
          have hal : ad.block < w.heap.size := by
            obtain ⟨ad', e, hlt, -⟩ := HL.out j hj
            injection e with e
            subst e
            exact hlt
          have HC := Lib.hid (show (wr.drew.cell? (ac.add k) = some (.int .i64 j)) ∧ (wr.drew.cell? (ad.add (j * 3)) = some (.int .i64 P)) ∧ (wr.drew.cell? ⟨(ad.add (j * 3)).block, (ad.add (j * 3)).off + 1, none⟩ = some (.int .i64 Q)) from ⟨hac, hc0, hc1⟩)
          have HSO := Lib.hid HB3.out.size
          have hac1 : ac.block < w.heap.size := by
            obtain ⟨ad', e, hlt, -⟩ := HV.out k hkK
            injection e with e
            subst e
            exact hlt
          have HBL : Hid (ac.block < w1.heap.size ∧ ad.block < w1.heap.size) := ⟨Nat.lt_of_lt_of_le hac1 HB1.out.size, Nat.lt_of_lt_of_le hal HB1.out.size⟩
          have HKP : Hid (∀ w4, Fr w1.heap.size wr.drew w4 → (w4.cell? (ac.add k) = some (.int .i64 j)) ∧ (w4.cell? (ad.add (j * 3)) = some (.int .i64 P)) ∧ (w4.cell? ⟨(ad.add (j * 3)).block, (ad.add (j * 3)).off + 1, none⟩ = some (.int .i64 Q))) := fun w4 hb => ⟨(hb.bel.cell (by rw [block_of_add]; exact HBL.out.1)).trans HC.out.1, (hb.bel.cell (by rw [block_of_add]; exact HBL.out.2)).trans HC.out.2.1, (hb.bel.cell (p := ⟨(ad.add (j * 3)).block, (ad.add (j * 3)).off + 1, none⟩) (by show (ad.add (j * 3)).block < _; rw [block_of_add]; exact HBL.out.2)).trans HC.out.2.2⟩
          clear hal hac1
          go_wp2_with fail
          go_region_held3 (fun w' => w'.cell? (ac.add k) = some (.int .i64 j) ∧ w'.cell? (ad.add (j * 3)) = some (.int .i64 P) ∧ w'.cell? ⟨(ad.add (j * 3)).block, (ad.add (j * 3)).off + 1, none⟩ = some (.int .i64 Q))
            (first | exact HC.out | exact HKP.out _ hb4 | go_keep)
            (first | (go_at_call 11; refine (lineCut_any s n m' P Q w1.heap.size true a' b' c' S _ (HN.out.keep HLW.out.drew) (HL3.out.below ((Below.refl wr.heap.size wr).drew)) hn1 hn8 HM3.out HR3.out hpn hsn hps HS3.out HB3.out.size HNL.out).mono ?_; rintro e w4 ⟨x4, rfl, m4, a4, b4, c4, S4, hm4, hr4, hS4, hL4, hb4⟩))
          all_goals
            have HB4 : Hid (Below w1.heap.size w1 w4) := (HB3.out.drew).trans hb4.bel
            have HL4 := Lib.hid hL4
            have HR4 := Lib.hid hr4
            have HS4 := Lib.hid hS4
            have HM4 := Lib.hid hm4
            clear hb4 hL4 hr4 hS4 hm4 HL3 HB3 HR3 HS3 HM3 HC HKP
            obtain ⟨wo, hwo⟩ : ∃ wo : World, wo = w4 := ⟨_, rfl⟩
            rw [← hwo] at HL4 HB4 ⊢
            clear hwo
            go_wp2_with fail
            go_loopw [11, 12] (fun v q wi => ∃ i : Nat, i ≤ n ∧ q = .int .i64 i ∧ Rag wi wo.heap.size v i (fun _ => n) (fun r t => (S4 r t).2) ∧ Below wo.heap.size wo wi) (fun _ q _ => n - (intOf q).toNat)
            case atStart => exact ⟨0, by omega, rfl, Rag.nil _ _ _ _, Below.refl _ _⟩
            case round =>
              obtain ⟨i, hi, rfl, hT, hb⟩ := hrel
              have HT := Lib.hid hT
              have HB5 := Lib.hid hb
              clear hT hb
              by_cases hin : i < n
              · have hin' : (i : Int) < n := by omega
                go_wp2_with fail
                have hcall := lineNext_ok s n m4 i i rfl _ true a4 b4 c4 _ _ wr (HL4.out.below HB5.out) hin hn8
                refine hcall.mono ?_
                clear hcall
                rintro e w6 ⟨v6, rfl, hV6, hb6⟩
                obtain ⟨A6, c6, rfl, -⟩ := hV6.vec
                have HV6 := Lib.hid (hV6.lift HB5.out.size)
                have HT6 := Lib.hid (HT.out.below hb6)
                have HB6 := Lib.hid (keep HB5.out hb6)
                clear hV6 hb6 HT HB5
                go_wp2_with (at_builtin; refine wpList_append_rag rfl (.tmp 87) (.tmp 89) rfl wo.heap.size _ i (fun _ => n) (fun r t => (S4 r t).2) rfl (HT6.out.alloc _) _ (HV6.out.alloc _) _ rfl (cell_new_at _ _ _ rfl) (by omega) (by have := HB6.out.size; simp; omega) ?_)
                intro v7 w7 hT7 hb7
                have HT7 := Lib.hid hT7
                have HB7 : Hid (Below wo.heap.size wo w7) := (HB6.out.alloc HB6.out.size _).trans hb7
                clear hT7 hb7 HT6 HB6 HV6
                go_wp2_with fail
                go_roundw
                case rel => exact ⟨i + 1, by omega, by go_num, HT7.out, HB7.out⟩
                case measure => simp [intOf]; omega
              · have ei : i = n := by omega
                subst ei
                have HLW := Lib.hid (keep HB1.out (HB4.out.trans (HB5.out.mono HB4.out.size)))
                have hcall := lineStep s i m4 w1.heap.size true a4 b4 c4 _ _ wr (HN.out.keep HLW.out) (HL4.out.below HB5.out) hn1 hn8 HM4.out HR4.out HS4.out (Nat.le_trans HB4.out.size HB5.out.size)
                have HC := Lib.hid hcall
                clear hcall HLW
                go_wp2_with fail
                refine HC.out.mono ?_
                rintro e w8 ⟨rfl, hL8, hb8⟩
                obtain ⟨S', hS'⟩ : ∃ S' : Nat → Nat → Int × Int, (fun p t => thinkF true i t (costF m4 a4 b4 c4) (fun k => (S4 k t).1) (fun k => (S4 k t).2) p) = S' := ⟨_, rfl⟩
                have HST : Hid (∀ t, StepR true i t (costF m4 a4 b4 c4) (fun k => (S4 k t).1) (fun k => (S4 k t).2) (fun k => (S' k t).1) (fun k => (S' k t).2)) := fun t => by
                  rw [← hS']
                  exact think_step
                have HL8 : Hid (LineH w8 w1.heap.size s true i m4 a4 b4 c4 (fun p t => (S' p t).1) (fun p t => (S' p t).2)) := by
                  rw [← hS']
                  exact hL8
                have HS8 : Hid (∀ k t, k < i → t < i → 0 ≤ (S' k t).1 ∧ (S' k t).1 ≤ 16) := fun k t hk ht => (HST.out t).ranged (cost_m HR4.out) (fun k hk => HS4.out k t hk ht) k hk
                have HB8 : Hid (Below w1.heap.size w1 w8) := (HB4.out.trans (HB5.out.mono HB4.out.size)).trans hb8.bel
                obtain ⟨T8, c8, rfl, hmt⟩ := (HT.out.keepO hb8.keep).mat
                have HMT := Lib.hid hmt
                clear hS' hL8 hb8 hmt HC HT HB5 HL4 HB4 HS4
                go_wp2_with fail
                go_loopw [15] (fun q wi => ∃ p : Nat, p ≤ i ∧ q = .int .i64 p ∧ Below w8.heap.size w8 wi) (fun q _ => i - (intOf q).toNat)
                case atStart => exact ⟨0, by omega, rfl, Below.refl _ _⟩
                case round =>
                  obtain ⟨p, hp, rfl, hb⟩ := hrel
                  have HB9 := Lib.hid hb
                  clear hb
                  by_cases hpi : p < i
                  · have hpi' : (p : Int) < i := by omega
                    go_wp2_with fail
                    have hcall := lineNext_ok s i m4 p p rfl _ true a4 b4 c4 _ _ wr (HL8.out.below HB9.out) hpi hn8
                    refine hcall.mono ?_
                    clear hcall
                    rintro e w10 ⟨v10, rfl, hV10, hb10⟩
                    obtain ⟨A10, c10, rfl, hv10⟩ := hV10.vec
                    have HV10 := Lib.hid hv10
                    have HB10 := Lib.hid (keep HB9.out hb10)
                    clear hV10 hv10 hb10 HB9
                    go_wp2_with fail
                    go_loopw [18] (fun q wi => ∃ k : Nat, k ≤ i ∧ q = .int .i64 k ∧ ∃ d, wi = w10.drewN d) (fun q _ => i - (intOf q).toNat)
                    case atStart => exact ⟨0, by omega, rfl, 0, rfl⟩
                    case round =>
                      obtain ⟨k, hk, rfl, d0, rfl⟩ := hrel
                      by_cases hki : k < i
                      · have hki' : (k : Int) < i := by omega
                        obtain ⟨ap, rfl, hapl, cp⟩ := HV10.out k hki
                        obtain ⟨pv, hpv⟩ : ∃ pv, (S' p k).2 = pv := ⟨_, rfl⟩
                        have hcase : pv = -1 ∨ ∃ q : Nat, q < i ∧ pv = q ∧ (S4 q k).2 ≠ (p : Int) := by
                          rcases next_cases (HST.out k) hpi with h | ⟨q, hq, h⟩
                          · exact .inl (hpv ▸ h)
                          · exact .inr ⟨q, hq, hpv ▸ h, (HST.out k).notBack (cost_m HR4.out) hpi h⟩
                        have cp : (w10.drewN d0).cell? (ap.add k) = some (.int .i64 (S' p k).2) := cp
                        rw [hpv] at cp
                        clear hapl hpv
                        rcases hcase with rfl | ⟨q, hq, rfl, hne⟩
                        · go_wp2_with fail
                          go_roundw
                          case rel => exact ⟨k + 1, by omega, by go_num, _, rfl⟩
                          case measure => simp [intOf]; omega
                        · obtain ⟨at1, Aq, cq, rfl, -, crow, hvq⟩ := (HMT.out.keep HB10.out) q hq
                          obtain ⟨aq, rfl, -, cq2⟩ := hvq k hki
                          have hq' : (q : Int) < i := by omega
                          obtain ⟨was, hwas⟩ : ∃ was, (S4 q k).2 = was := ⟨_, rfl⟩
                          have cq2 : (w10.drewN d0).cell? (aq.add k) = some (.int .i64 (S4 q k).2) := cq2
                          have crow : (w10.drewN d0).cell? (at1.add q) = some (.slice (some aq) i cq) := crow
                          rw [hwas] at cq2 hne
                          have hd : (was == (p : Int)) = false := beq_false_of_ne hne
                          clear hvq hwas hne
                          go_wp2_with fail
                          go_roundw
                          case rel => exact ⟨k + 1, by omega, by go_num, _, rfl⟩
                          case measure => simp [intOf]; omega
                      · have ek : k = i := by omega
                        subst ek
                        go_wp2_with fail
                        go_roundw
                        case rel => exact ⟨p + 1, by omega, by go_num, below_drewN HB10.out _⟩
                        case measure => simp [intOf]; omega
                  · have ep : p = i := by omega
                    subst ep
                    have HB11 := Lib.hid (HB8.out.trans (HB9.out.mono HB8.out.size))
                    have HL11 := Lib.hid (HL8.out.below HB9.out)
                    clear HL8 HB9 HB8 HMT HST
                    go_wp2_with fail
                    go_roundw
                    case rel => exact ⟨k + 1, by omega, by go_num, m4, a4, b4, c4, S', HM4.out, HR4.out, HS8.out, HL11.out, HB11.out⟩
                    case measure => simp [intOf]; omega
      · go_wp2_with fail
        go_ret
        exact ⟨rfl, keep HB1.out HB3.out⟩
  · have HF := Lib.hid hf
    clear hf
    refine (lineNew_bad x A m cap true a b c w1 (HL.out.keep HB1.out) hm v HF.out).mono ?_
    rintro e w2 ⟨rfl, hb2⟩
    have HB2 := Lib.hid (keep HB1.out hb2)
    clear hb2 HB1
    go_wp2_with fail
    go_ret
    exact ⟨rfl, HB2.out⟩

end Go.Proofs.YtbepfmcaolmhgaaDoor


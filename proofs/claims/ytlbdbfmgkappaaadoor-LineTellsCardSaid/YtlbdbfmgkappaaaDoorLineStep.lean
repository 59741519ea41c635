/- A step of the line: all think anew. -/
import Derived.Test.YtlbdbfmgkappaaaDoorLineMem
import Derived.Test.YtlbdbfmgkappaaaDoorCosts
namespace Go.Proofs.YtlbdbfmgkappaaaDoor
open Go.RowKit
set_option linter.unusedVariables false

/-- What node i thinks of t in the middle of a step: k neighbours have told. -/
def midT (po : Bool) (K : Nat → Nat → Int) (f g : Nat → Int) (t i k : Nat) : Int × Int := if i = t then (0, -1) else bestF po K f g i k
/-- A row in the middle: of the first t nodes it is known. -/
def rowT (po : Bool) (n : Nat) (K F G : Nat → Nat → Int) (i t u : Nat) : Int × Int := if u < t then thinkF po n u K (fun k => F k u) (fun k => G k u) i else if u = i then (0, -1) else (16, -1)

theorem best_succ (po : Bool) (K : Nat → Nat → Int) (f g : Nat → Int) (i q : Nat) : bestF po K f g i (q + 1) = if q ≠ i ∧ K i q < 16 ∧ K i q + toldF po f g i q < (bestF po K f g i q).1 then (K i q + toldF po f g i q, (q : Int)) else bestF po K f g i q := rfl

theorem place_row {w : World} {g n : Nat} {T : TypeId} {f f' : Nat → Int × Int} (h : RowP w g T (n * 2) (placeC (fun u => (f u).1) (fun u => (f u).2))) (e : ∀ u, u < n → f u = f' u) : RowP w g T (n * 2) (placeC (fun u => (f' u).1) (fun u => (f' u).2)) := h.congr fun q hq => by
  unfold placeC
  simp only [e (q / 2) (by omega)]

section
variable {po : Bool} {n : Nat} {K F G : Nat → Nat → Int} {i t k : Nat}
theorem rowT_next (u : Nat) : rowT po n K F G i (t + 1) u = upd (rowT po n K F G i t) t (midT po K (fun k => F k t) (fun k => G k t) t i n) u := by
  unfold rowT
  by_cases h : u < t
  · rw [if_pos (by omega), upd_other _ _ (by omega), if_pos h]
  · by_cases e : u = t
    · subst e
      rw [if_pos (by omega), upd_same]
      rfl
    · rw [if_neg (by omega), upd_other _ _ e, if_neg h]
theorem rowT_start (u : Nat) : rowT po n K F G i t u = upd (rowT po n K F G i t) t (midT po K (fun k => F k t) (fun k => G k t) t i 0) u := by
  by_cases e : u = t
  · subst e
    rw [upd_same]
    unfold rowT midT bestF
    rw [if_neg (by omega)]
    by_cases h : u = i
    · rw [if_pos h, if_pos h.symm]
    · rw [if_neg h, if_neg fun e => h e.symm]
  · rw [upd_other _ _ e]
theorem midT_skip (h : t = i ∨ k = i ∨ ¬ K i k < 16) : midT po K (fun k => F k t) (fun k => G k t) t i (k + 1) = midT po K (fun k => F k t) (fun k => G k t) t i k := by
  unfold midT
  by_cases e : i = t
  · rw [if_pos e, if_pos e]
  · rw [if_neg e, if_neg e]
    rw [best_succ, if_neg (by rintro ⟨h1, h2, -⟩; rcases h with h | h | h; exact e h.symm; exact h1 h; exact h h2)]
theorem midT_no (h1 : t ≠ i) (h : ¬ K i k + toldF po (fun k => F k t) (fun k => G k t) i k < (midT po K (fun k => F k t) (fun k => G k t) t i k).1) : midT po K (fun k => F k t) (fun k => G k t) t i (k + 1) = midT po K (fun k => F k t) (fun k => G k t) t i k := by
  unfold midT at h ⊢
  rw [if_neg (fun e => h1 e.symm)] at h
  rw [if_neg (fun e => h1 e.symm), if_neg (fun e => h1 e.symm)]
  rw [best_succ, if_neg (by rintro ⟨-, -, h3⟩; exact h h3)]
theorem midT_yes (h1 : t ≠ i) (h2 : k ≠ i) (h3 : K i k < 16) (h : K i k + toldF po (fun k => F k t) (fun k => G k t) i k < (midT po K (fun k => F k t) (fun k => G k t) t i k).1) : midT po K (fun k => F k t) (fun k => G k t) t i (k + 1) = (K i k + toldF po (fun k => F k t) (fun k => G k t) i k, (k : Int)) := by
  unfold midT at h ⊢
  rw [if_neg (fun e => h1 e.symm)] at h ⊢
  rw [best_succ, if_pos ⟨h2, h3, h⟩]
end

theorem upd_upd {α : Type} (f : Nat → α) (t : Nat) (p q : α) : upd (upd f t p) t q = upd f t q := by
  funext u
  by_cases e : u = t
  · subst e; rw [upd_same, upd_same]
  · rw [upd_other _ _ e, upd_other _ _ e, upd_other _ _ e]

theorem place_upd (f : Nat → Int × Int) (t : Nat) (p : Int × Int) (q : Nat) :
    upd (upd (placeC (fun u => (f u).1) (fun u => (f u).2)) (t * 2) (.int .i64 p.1)) (t * 2 + 1) (.int .i64 p.2) q = placeC (fun u => (upd f t p u).1) (fun u => (upd f t p u).2) q := by
  rcases Nat.mod_two_eq_zero_or_one q with hm | hm
  · obtain ⟨k, rfl⟩ : ∃ k, q = k * 2 := ⟨q / 2, by omega⟩
    rw [upd_other _ _ (by omega), placeC0]
    by_cases e : k = t
    · subst e; rw [upd_same, upd_same]
    · rw [upd_other _ _ (by omega), placeC0, upd_other _ _ e]
  · obtain ⟨k, rfl⟩ : ∃ k, q = k * 2 + 1 := ⟨q / 2, by omega⟩
    rw [placeC1]
    by_cases e : k = t
    · subst e; rw [upd_same, upd_same]
    · rw [upd_other _ _ (by omega), upd_other _ _ (by omega), placeC1, upd_other _ _ e]

theorem told_ranged {po : Bool} {f g : Nat → Int} {i k : Nat} (h : 0 ≤ f k ∧ f k ≤ 16) : 0 ≤ toldF po f g i k ∧ toldF po f g i k ≤ 16 := by
  unfold toldF
  split
  · omega
  · exact h

theorem mid_ranged {po : Bool} {n : Nat} {K : Nat → Nat → Int} {f g : Nat → Int} (hK : CostM n K) (hf : ∀ k, k < n → 0 ≤ f k ∧ f k ≤ 16) {t i : Nat} (hi : i < n) : ∀ k, k ≤ n → 0 ≤ (midT po K f g t i k).1 ∧ (midT po K f g t i k).1 ≤ 16 := by
  intro k hk
  unfold midT
  by_cases e : i = t
  · rw [if_pos e]; decide
  · rw [if_neg e]
    refine ⟨?_, best_le i k⟩
    rcases best_is (po := po) (K := K) (f := f) (g := g) i k with h | ⟨q, hq, -, -, h, -⟩
    · rw [h]; decide
    · rw [h]
      show 0 ≤ K i q + toldF po f g i q
      have h1 := hK.nonneg hi (show q < n by omega)
      have h2 := told_ranged (po := po) (g := g) (i := i) (hf q (by omega))
      omega

set_option maxRecDepth 100000 in
set_option maxHeartbeats 4000000 in
theorem stepped_walk (s n m : Nat) (lo : Nat) (po : Bool) (lA : Option Addr) (lc gr gc : Nat) (B C : Nat → Nat) (a b c : Nat → Int) (F G : Nat → Nat → Int) (w : World) (hN : NobT w) (h : LineW w lo s po lA lc gr gc B C n m a b c F G) (h1 : 1 ≤ n) (h8 : n ≤ 8) (hm : m ≤ 9223372036854775807) (hr : Right n m a b c)
    (hF : ∀ k t, k < n → t < n → 0 ≤ F k t ∧ F k t ≤ 16) :
    Calls Tryd.prog 51 #[.pointer (some ⟨s, 0, none⟩)] w fun e w' => ∃ v B' C', e = .returned v ∧
      Tht w' w.heap.size v B' C' n n (fun i t => (thinkF po n t (costF m a b c) (fun k => F k t) (fun k => G k t) i).1) (fun i t => (thinkF po n t (costF m a b c) (fun k => F k t) (fun k => G k t) i).2) ∧ Below w.heap.size w w' := by
  have hg : GoodG n m a b c := ⟨by omega, by omega, by simpa using hr⟩
  have c0 := h.blk.cell 0
  have c2 := h.blk.cell 2
  simp at c0 c2
  have hls := h.blk.lt
  have h1' : (1 : Int) ≤ n := by omega
  have h8' : (n : Int) ≤ 8 := by omega
  have HW := Lib.hid h
  have HN := Lib.hid hN
  have HG := Lib.hid hg
  have HR := Lib.hid hr
  have HF := Lib.hid hF
  have HK := Lib.hid (cost_m hr)
  clear h hg hr hF hN
  go_enter Tryd.func51, Tryd.ntmps51
  go_wp2_with fail
  have hcall := costs_ok n n rfl lA m lc a b c w HW.out.lks.lnk hm HG.out
  refine hcall.mono ?_
  clear hcall
  rintro e wc ⟨g, cg, BK, CK, rfl, -, hat, hbc⟩
  obtain ⟨g', cg', e, -, hgl, hgc, -⟩ := hat.cells h1
  have eg : g = g' := by
    simp only [Value.slice.injEq, Option.some.injEq, Addr.mk.injEq] at e
    exact e.1.1
  subst eg
  have HGC := Lib.hid hgc
  have HGL := Lib.hid hgl
  have HAT := Lib.hid hat
  have HBC := Lib.hid hbc
  have HWC := Lib.hid (HW.out.below hbc)
  have HNC := Lib.hid (HN.out.keep hbc)
  clear hat hgc hgl e hbc c0 c2 hls HW HN
  go_wp2_with fail
  go_loopw [6, 34] (fun v q wr => ∃ i : Nat, i ≤ n ∧ q = .int .i64 i ∧ (∃ B' C', Tht wr wc.heap.size v B' C' i n (fun i t => (thinkF po n t (costF m a b c) (fun k => F k t) (fun k => G k t) i).1) (fun i t => (thinkF po n t (costF m a b c) (fun k => F k t) (fun k => G k t) i).2)) ∧ Below wc.heap.size wc wr) (fun _ q _ => n - (intOf q).toNat)
  case atStart => exact ⟨0, by omega, rfl, ⟨_, _, Tht.nil _ _ _ _ _⟩, Below.refl _ _⟩
  case round =>
    obtain ⟨i, hi, rfl, ⟨B', C', hT⟩, hb⟩ := hrel
    have HT := Lib.hid hT
    have HB := Lib.hid hb
    clear hT hb
    obtain ⟨wo, hwo⟩ : ∃ wo : World, wo = wr := ⟨_, rfl⟩
    rw [← hwo] at HT HB ⊢
    clear hwo
    by_cases hlt : i < n
    · have hlt' : (i : Int) < n := by omega
      obtain ⟨n0, n1⟩ := HNC.out.keep HB.out
      go_wp2_with fail
      have hcall := repeat_thoughts wo.heap.size n n 16 (-1) (wo.alloc (.cells #[.int .i64 16, .int .i64 (-1)] 94)) rfl h1 h8 (by simp) (by simp)
      refine hcall.mono ?_
      clear hcall
      rintro e w1 ⟨rfl, hblk, hb1⟩
      have hs : (wo.alloc (.cells #[Value.int .i64 16, Value.int .i64 (-1)] 94)).heap.size = wo.heap.size + 1 := by simp
      rw [hs] at hblk hb1 ⊢
      have hr1 : RowP w1 (wo.heap.size + 1) 94 (n * 2) (placeC (fun _ => 16) (fun _ => -1)) := ⟨_, hblk, by simp [pairs2], fun j hj => by
        unfold pairs2 placeC
        rw [List.getElem?_toArray, List.getElem?_map, List.getElem?_range hj]
        rfl⟩
      have hc1 := hr1.cell (i := i * 2) (by omega)
      rw [placeC0] at hc1
      have hz1 := hr1.frozen (i * 2)
      have HR1 : Hid (RowP (w1.setCell ⟨wo.heap.size + 1, i * 2, none⟩ (.int .i64 0)) (wo.heap.size + 1) 94 (n * 2) (placeC (fun u => (rowT po n (costF m a b c) F G i 0 u).1) (fun u => (rowT po n (costF m a b c) F G i 0 u).2))) := by
        refine (hr1.set (i * 2) (.int .i64 0)).congr fun q hq => ?_
        rcases Nat.mod_two_eq_zero_or_one q with hm | hm
        · obtain ⟨k, rfl⟩ : ∃ k, q = k * 2 := ⟨q / 2, by omega⟩
          rw [placeC0]
          unfold rowT
          by_cases e : k = i
          · subst e; rw [upd_same]; simp
          · rw [upd_other _ _ (by omega), placeC0]; simp [e]
        · obtain ⟨k, rfl⟩ : ∃ k, q = k * 2 + 1 := ⟨q / 2, by omega⟩
          rw [placeC1, upd_other _ _ (by omega), placeC1]
          unfold rowT
          by_cases e : k = i <;> simp [e]
      have HB1 : Hid (Below wo.heap.size wo (w1.setCell ⟨wo.heap.size + 1, i * 2, none⟩ (.int .i64 0))) :=
        ((Below.alloc (Below.refl _ _) (Nat.le_refl _) _).trans (hb1.mono (by omega))).setCell (by show wo.heap.size ≤ wo.heap.size + 1; omega) _
      have hrwi := (HAT.out.row i hlt).2
      have HCR := Lib.hid (hrwi.below HB.out hrwi.lt)
      have HCI := Lib.hid ((HB.out.cell (p := ⟨g, i, none⟩) HGL.out).trans (HGC.out i hlt))
      have HGL2 : Hid (g < wo.heap.size) := Nat.lt_of_lt_of_le HGL.out HB.out.size
      have HWO := Lib.hid (HWC.out.below HB.out)
      clear hblk hb1 hs hr1 n0 n1 hrwi
      obtain ⟨gb, hgb⟩ : ∃ gb, wo.heap.size + 1 = gb := ⟨_, rfl⟩
      have HGB : Hid (wo.heap.size ≤ gb) := by
        show wo.heap.size ≤ gb
        omega
      rw [hgb] at hc1 hz1 HR1 HB1
      rw [hgb]
      clear hgb
      go_wp2_with fail
      go_loopw [46] (fun q wi => ∃ t : Nat, t ≤ n ∧ q = .int .i64 t ∧ RowP wi gb 94 (n * 2) (placeC (fun u => (rowT po n (costF m a b c) F G i t u).1) (fun u => (rowT po n (costF m a b c) F G i t u).2)) ∧ Below wo.heap.size wo wi) (fun q _ => n - (intOf q).toNat)
      case atStart => exact ⟨0, by omega, rfl, HR1.out, HB1.out⟩
      case round =>
        obtain ⟨t, ht, rfl, hrow, hb2⟩ := hrel
        have HR2 := Lib.hid hrow
        have HB2 := Lib.hid hb2
        clear hrow hb2 HR1 HB1 hc1 hz1
        by_cases htn : t < n
        · have htn' : (t : Int) < n := by omega
          have hci := (HB2.out.cell (p := ⟨g, i, none⟩) HGL2.out).trans HCI.out
          have HR3 : Hid (RowP wr gb 94 (n * 2) (placeC (fun u => (upd (rowT po n (costF m a b c) F G i t) t (midT po (costF m a b c) (fun k => F k t) (fun k => G k t) t i 0) u).1) (fun u => (upd (rowT po n (costF m a b c) F G i t) t (midT po (costF m a b c) (fun k => F k t) (fun k => G k t) t i 0) u).2))) := place_row HR2.out fun u _ => rowT_start u
          go_wp2_with fail
          go_loopw [54] (fun q wi => ∃ k : Nat, k ≤ n ∧ q = .int .i64 k ∧ RowP wi gb 94 (n * 2) (placeC (fun u => (upd (rowT po n (costF m a b c) F G i t) t (midT po (costF m a b c) (fun k => F k t) (fun k => G k t) t i k) u).1) (fun u => (upd (rowT po n (costF m a b c) F G i t) t (midT po (costF m a b c) (fun k => F k t) (fun k => G k t) t i k) u).2)) ∧ Below wo.heap.size wo wi) (fun q _ => n - (intOf q).toNat)
          case atStart => exact ⟨0, by omega, rfl, HR3.out, HB2.out⟩
          case round =>
            obtain ⟨k, hk, rfl, hrow, hb3⟩ := hrel
            have HR4 := Lib.hid hrow
            have HB4 := Lib.hid hb3
            clear hrow hb3 HR2 HB2 HR3 hci
            by_cases hkn : k < n
            · have hkn' : (k : Int) < n := by omega
              have ck := (HCR.out.below HB4.out HCR.out.lt).cell hkn
              obtain ⟨cc, hcc⟩ : ∃ cc, costF m a b c i k = cc := ⟨_, rfl⟩
              have hc0 : 0 ≤ cc ∧ cc ≤ 16 := by rw [← hcc]; exact costV_ranged HR.out i k
              rw [hcc] at ck
              have HCC := Lib.hid hcc
              clear hcc
              by_cases hti : t = i
              · have e2 : ((t : Int) == (i : Int)) = true := by simp [hti]
                have e1 : (t == i) = true := by simp [hti]
                have HP : Hid (midT po (costF m a b c) (fun k => F k t) (fun k => G k t) t i (k + 1) = midT po (costF m a b c) (fun k => F k t) (fun k => G k t) t i k) := midT_skip (.inl hti)
                clear hti
                go_wp2_with fail
                go_roundw
                case rel => exact ⟨k + 1, by omega, by go_num, by rw [HP.out]; exact HR4.out, HB4.out⟩
                case measure => simp [intOf]; omega
              · have e2 : ((t : Int) == (i : Int)) = false := beq_false_of_ne (by omega)
                have e1 : (t == i) = false := beq_false_of_ne hti
                by_cases hki : k = i
                · have f2 : ((k : Int) == (i : Int)) = true := by simp [hki]
                  have f1 : (k == i) = true := by simp [hki]
                  have HP : Hid (midT po (costF m a b c) (fun k => F k t) (fun k => G k t) t i (k + 1) = midT po (costF m a b c) (fun k => F k t) (fun k => G k t) t i k) := midT_skip (.inr (.inl hki))
                  clear hti hki
                  go_wp2_with fail
                  go_roundw
                  case rel => exact ⟨k + 1, by omega, by go_num, by rw [HP.out]; exact HR4.out, HB4.out⟩
                  case measure => simp [intOf]; omega
                · have f2 : ((k : Int) == (i : Int)) = false := beq_false_of_ne (by omega)
                  have f1 : (k == i) = false := beq_false_of_ne hki
                  by_cases h16 : cc = 16
                  · have g1 : (cc == 16) = true := by simp [h16]
                    have HP : Hid (midT po (costF m a b c) (fun k => F k t) (fun k => G k t) t i (k + 1) = midT po (costF m a b c) (fun k => F k t) (fun k => G k t) t i k) := midT_skip (.inr (.inr (by rw [HCC.out]; omega)))
                    clear hti hki h16
                    go_wp2_with fail
                    go_roundw
                    case rel => exact ⟨k + 1, by omega, by go_num, by rw [HP.out]; exact HR4.out, HB4.out⟩
                    case measure => simp [intOf]; omega
                  · have g1 : (cc == 16) = false := beq_false_of_ne h16
                    obtain ⟨z, hz⟩ : ∃ z, toldF po (fun k => F k t) (fun k => G k t) i k = z := ⟨_, rfl⟩
                    have hzr : 0 ≤ z ∧ z ≤ 16 := by rw [← hz]; exact told_ranged (HF.out k t hkn htn)
                    obtain ⟨md, hmd⟩ : ∃ md, (midT po (costF m a b c) (fun k => F k t) (fun k => G k t) t i k).1 = md := ⟨_, rfl⟩
                    have HYES : Hid (cc + z < md → midT po (costF m a b c) (fun k => F k t) (fun k => G k t) t i (k + 1) = (cc + z, (k : Int))) := fun h => by
                      have := midT_yes (po := po) (K := costF m a b c) (F := F) (G := G) hti hki (by rw [HCC.out]; omega) (by rw [HCC.out, hz, hmd]; exact h)
                      rw [HCC.out, hz] at this
                      exact this
                    have HNO : Hid (¬ cc + z < md → midT po (costF m a b c) (fun k => F k t) (fun k => G k t) t i (k + 1) = midT po (costF m a b c) (fun k => F k t) (fun k => G k t) t i k) := fun h => midT_no hti (by rw [HCC.out, hz, hmd]; exact h)
                    have hcall := told_walk s n m k i t lo po lA lc gr gc B C a b c F G wr (HWO.out.below HB4.out) hkn htn z hz
                    have HT5 := Lib.hid hcall
                    have HMD := Lib.hid hmd
                    have hlt16 : cc ≤ 15 := by omega
                    clear hcall hz hmd hti hki h16
                    go_wp2_with fail
                    refine HT5.out.mono ?_
                    rintro e w5 ⟨rfl, hb5⟩
                    have HR5 := Lib.hid (HR4.out.below hb5 HR4.out.lt)
                    have HB5 := Lib.hid (keep HB4.out hb5)
                    clear hb5 HR4 HB4 HT5 ck
                    have cm := HR5.out.cell (i := t * 2) (by omega)
                    have cz0 := HR5.out.frozen (t * 2)
                    have cz1 := HR5.out.frozen (t * 2 + 1)
                    have cn := HR5.out.cell (i := t * 2 + 1) (by omega)
                    rw [placeC0, upd_same, HMD.out] at cm
                    rw [placeC1] at cn
                    by_cases hl : cc + z < md
                    · have HP := Lib.hid (HYES.out hl)
                      have HR6 : Hid (RowP ((w5.setCell ⟨gb, t * 2, none⟩ (.int .i64 (cc + z))).setCell ⟨gb, t * 2 + 1, none⟩ (.int .i64 k)) gb 94 (n * 2) (placeC (fun u => (upd (rowT po n (costF m a b c) F G i t) t (midT po (costF m a b c) (fun k => F k t) (fun k => G k t) t i (k + 1)) u).1) (fun u => (upd (rowT po n (costF m a b c) F G i t) t (midT po (costF m a b c) (fun k => F k t) (fun k => G k t) t i (k + 1)) u).2))) := by
                        have h := ((HR5.out.set (t * 2) (.int .i64 (cc + z))).set (t * 2 + 1) (.int .i64 k)).congr fun q _ => place_upd _ t (cc + z, (k : Int)) q
                        rw [upd_upd] at h
                        rw [HP.out]
                        exact h
                      have HB6 : Hid (Below wo.heap.size wo ((w5.setCell ⟨gb, t * 2, none⟩ (.int .i64 (cc + z))).setCell ⟨gb, t * 2 + 1, none⟩ (.int .i64 k))) := (HB5.out.setCell HGB.out _).setCell HGB.out _
                      clear HYES HNO HP HR5 HB5 HMD
                      go_wp2_with fail
                      go_roundw
                      case rel => exact ⟨k + 1, by omega, by go_num, HR6.out, HB6.out⟩
                      case measure => simp [intOf]; omega
                    · have HP := Lib.hid (HNO.out (by omega))
                      have hd : decide (cc + z < md) = false := decide_eq_false hl
                      clear HYES HNO hl HMD
                      go_wp2_with fail
                      go_roundw
                      case rel => exact ⟨k + 1, by omega, by go_num, by rw [HP.out]; exact HR5.out, HB5.out⟩
                      case measure => simp [intOf]; omega
            · have ek : k = n := by omega
              subst ek
              have HR5 : Hid (RowP wr gb 94 (k * 2) (placeC (fun u => (rowT po k (costF m a b c) F G i (t + 1) u).1) (fun u => (rowT po k (costF m a b c) F G i (t + 1) u).2))) := place_row HR4.out fun u _ => (rowT_next u).symm
              clear HR4
              go_wp2_with fail
              go_roundw
              case rel => exact ⟨t + 1, by omega, by go_num, HR5.out, HB4.out⟩
              case measure => simp [intOf]; omega
        · have et : t = n := by omega
          subst et
          have HR5 : Hid (RowP wr gb 94 (t * 2) (placeC (fun u => (thinkF po t u (costF m a b c) (fun k => F k u) (fun k => G k u) i).1) (fun u => (thinkF po t u (costF m a b c) (fun k => F k u) (fun k => G k u) i).2))) := place_row (f' := fun u => thinkF po t u (costF m a b c) (fun k => F k u) (fun k => G k u) i) HR2.out fun u hu => by
            unfold rowT
            rw [if_pos hu]
          clear HR2
          have hsz : (wr.alloc (.cells #[.slice (some ⟨gb, 0, none⟩) t t] 91)).heap.size = wr.heap.size + 1 := by simp
          go_wp2_with (at_builtin; refine wpList_append_tht rfl (.tmp 93) (.tmp 95) rfl wo wc.heap.size _ B' C' i t _ _ rfl HT.out (HB2.out.alloc HB2.out.size _) gb t HGB.out (HR5.out.alloc _) _ rfl (cell_new_at _ _ _ rfl) (by omega) HB.out.size ?_)
          intro v2 B2 C2 w2 hT2 hb2
          have HT2 := Lib.hid hT2
          have HB3 : Hid (Below wc.heap.size wc w2) := (HB.out.trans (((HB2.out.alloc HB2.out.size _).mono HB.out.size))).trans hb2
          clear hT2 hb2
          go_wp2_with fail
          go_roundw
          case rel => exact ⟨i + 1, by omega, by go_num, ⟨B2, C2, HT2.out⟩, HB3.out⟩
          case measure => simp [intOf]; omega
    · have ei : i = n := by omega
      subst ei
      go_wp2_with fail
      go_ret
      exact ⟨_, B', C', rfl, HT.out.lift HBC.out.size, keep HBC.out HB.out⟩

end Go.Proofs.YtlbdbfmgkappaaaDoor

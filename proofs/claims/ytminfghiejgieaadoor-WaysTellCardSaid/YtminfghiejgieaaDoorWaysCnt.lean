/- ways.Count's closure: how many shortest ways lead on from a node, each known but once. -/
import Derived.Test.YtminfghiejgieaaDoorWaysLaw
import Derived.Maps.OwnSet
namespace Go.Proofs.YtminfghiejgieaaDoor
open Go.RowKit Go.Maps
set_option linter.unusedVariables false

theorem keyedW : Keyed Tryd.prog 3 := int_keyed Tryd.underlying3
theorem zeroW (w : World) : (zeroValue 3).run Tryd.prog w = .ok (.int .i64 0) w := by kernel_rfl

/-- The closure as a value. -/
def cntV (bk bx bc : Nat) : Value := .func (.func 58) #[] #[.pointer (some ⟨bk, 0, none⟩), .pointer (some ⟨bx, 0, none⟩), .pointer (some ⟨bc, 0, none⟩)]

/-- What is known, and the closure's variables. -/
structure CntS (wv : World) (bk bx bc bm n t : Nat) (v : Value) (W : Nat → Int) (N : Nat) (w : World) : Prop where
  bel : Below wv.heap.size wv w
  ck : w.cell? ⟨bk, 0, none⟩ = some (.map (some bm))
  cx : w.cell? ⟨bx, 0, none⟩ = some v
  cc : w.cell? ⟨bc, 0, none⟩ = some (cntV bk bx bc)
  own : ∃ D : DataW Unit, w.ownsMap Tryd.prog 3 (plainElem Tryd.prog 3) bm N D ∧ Maps.has D (.int .i64 t) = true ∧ ∀ i : Nat, i < n → Maps.has D (.int .i64 i) = true → D.atKey (.int .i64 i) (.lit (.int .i64 0)) = .lit (.int .i64 (W i))

section
variable {wv w w' : World} {bk bx bc bm n t N : Nat} {v : Value} {W : Nat → Int}
theorem CntS.mono (h : CntS wv bk bx bc bm n t v W N w) {M : Nat} (hM : N ≤ M) : CntS wv bk bx bc bm n t v W M w := by
  obtain ⟨D, h1, h2⟩ := h.own
  exact ⟨h.bel, h.ck, h.cx, h.cc, D, h1.mono hM, h2⟩
theorem CntS.drewN (h : CntS wv bk bx bc bm n t v W N w) (q : Nat) : CntS wv bk bx bc bm n t v W N (w.drewN q) := by
  obtain ⟨D, h1, h2⟩ := h.own
  exact ⟨below_drewN h.bel q, h.ck, h.cx, h.cc, D, h1, h2⟩
/-- One more is known. -/
theorem CntS.put (h : CntS wv bk bx bc bm n t v W N w) (hb : wv.heap.size ≤ bm) (h1 : bk ≠ bm) (h2 : bx ≠ bm) (h3 : bc ≠ bm) {D : DataW Unit} (hm : Maps.IsMap D)
    (hD : Maps.has D (.int .i64 t) = true ∧ ∀ i : Nat, i < n → Maps.has D (.int .i64 i) = true → D.atKey (.int .i64 i) (.lit (.int .i64 0)) = .lit (.int .i64 (W i))) {i : Nat}
    (ho : w'.ownsMap Tryd.prog 3 (plainElem Tryd.prog 3) bm (N + 1) (D.put (.int .i64 i) (.lit (.int .i64 (W i))))) (hg : w.grownBy w' (some bm)) (hw : wv.heap.size ≤ w.heap.size) :
    CntS wv bk bx bc bm n t v W (N + 1) w' := by
  refine ⟨below_only h.bel hg hw hb, hg.cell h.ck (by simpa using h1), hg.cell h.cx (by simpa using h2), hg.cell h.cc (by simpa using h3), _, ho, ?_, ?_⟩
  · by_cases e : t = i
    · subst e
      exact Maps.has_put_same hm (by simp [WideAt.IsKeyLit]) _
    · rw [Maps.has_put_other (fun h => e (by injection h with _ h; omega))]
      exact hD.1
  · intro k hk hh
    by_cases e : k = i
    · subst e
      exact Maps.atKey_put_same hm (by simp [WideAt.IsKeyLit]) _ _
    · have hne : Lit.int .i64 (k : Int) ≠ Lit.int .i64 (i : Int) := fun h => e (by injection h with _ h; omega)
      rw [Maps.has_put_other hne] at hh
      rw [Maps.atKey_put_other hne]
      exact hD.2 k hk hh
end

theorem listS_bound {W : Nat → Int} (l : List Int) {B : Int} (h : ∀ a, 0 ≤ W a ∧ W a ≤ B) : ∀ r : Nat, 0 ≤ listS l W r ∧ listS l W r ≤ r * B
  | 0 => ⟨Int.le_refl _, by simp [listS]⟩
  | r + 1 => by
    have h1 := listS_bound l h r
    have h2 := h (atL l r).toNat
    unfold listS
    rw [Int.natCast_add, Int.add_mul]
    omega

set_option maxRecDepth 100000 in
set_option maxHeartbeats 4000000 in
theorem count_any {wv : World} {bk bx bc bm n t : Nat} {A : Option Addr} {cv : Nat} {K : Nat → Nat → Int} {D : Nat → Int} (hM : Mat wv A n (fun i => (upsL n t K D i).length) (fun i => atL (upsL n t K D i)))
    (hK : CostM n K) (hD : FarD n t K D) (ht : t < n) (h8 : n ≤ 8) (hb : wv.heap.size ≤ bm) (h1 : bk ≠ bm) (h2 : bx ≠ bm) (h3 : bc ≠ bm) :
    ∀ (f : Nat) (i : Nat) (w : World) (N : Nat), i < n → D i < f → N + 9 ^ f ≤ 9223372036854775807 → CntS wv bk bx bc bm n t (.slice A n cv) (waysF n t K D) N w →
    Calls Tryd.prog 58 #[.int .i64 i, .pointer (some ⟨bk, 0, none⟩), .pointer (some ⟨bx, 0, none⟩), .pointer (some ⟨bc, 0, none⟩)] w fun e w' => e = .returned (.int .i64 (waysF n t K D i)) ∧
      CntS wv bk bx bc bm n t (.slice A n cv) (waysF n t K D) (N + 9 ^ f) w' := by
  intro f
  induction f with
  | zero =>
    intro i w N hi hf
    have := hD.low i hi
    omega
  | succ f ih =>
    intro i w N hi hf hN hS
    have hW := ways_bound (t := t) (K := K) (D := D) h8 i
    have hi' : (i : Int) < n := by omega
    have h8' : (n : Int) ≤ 8 := by omega
    have e9 : 9 ^ (f + 1) = 9 * 9 ^ f := by rw [Nat.pow_succ]; omega
    have p9 : 1 ≤ 9 ^ f := Nat.one_le_pow _ _ (by omega)
    rw [e9] at hN ⊢
    clear e9
    generalize 9 ^ f = P at ih hN p9 ⊢
    obtain ⟨ad, Ai, ci, rfl, hal, hac, hav⟩ := hM i hi
    replace hac : wv.cell? (ad.add i) = some (.slice Ai (upsL n t K D i).length ci) := hac
    replace hav : Vec wv Ai (upsL n t K D i).length (atL (upsL n t K D i)) := hav
    obtain ⟨Dm, hown, hDm⟩ := hS.own
    have hkey : keyOf Tryd.prog 3 (.int .i64 i) = some (.int .i64 i) := keyOf_int_mk Tryd.underlying3 (wf_of (by omega) (by omega))
    have ck := hS.ck
    have cx := hS.cx
    have cc := hS.cc
    have cr := (hS.bel.cell (p := ad.add i) (by rw [block_of_add]; exact hal)).trans hac
    have HS := Lib.hid hS
    clear hS hac
    go_enter Tryd.func58, Tryd.ntmps58
    by_cases hh : Maps.has Dm (.int .i64 i) = true
    · have hat := hDm.2 i hi hh
      go_wp2_with (first
        | (at_lookup; refine wpList_lookup_own_ok_int _ rfl _ _ 97 rfl 3 3 .i64 keyedW Tryd.underlying97 Tryd.underlying3 (zeroW _) bm N Dm rfl hown _ _ rfl hkey ?_; intro c hat2 hwc)
        | go_in)
      go_ret
      rw [hat] at hat2
      injection hat2 with hat2
      injection hat2 with _ hat2
      subst hat2
      exact ⟨rfl, HS.out.mono (by omega)⟩
    · have hh' : Maps.has Dm (.int .i64 i) = false := by simpa using hh
      have hne : i ≠ t := fun e => hh (e ▸ hDm.1)
      have hrec := ways_rec hK hD hi hne
      have hl8 : (upsL n t K D i).length ≤ n := pickL_len _ _
      have HU := Lib.hid (fun k hk => ups_at hK hD (k := k) hi hk)
      have HR := Lib.hid (listS_bound (upsL n t K D i) (W := waysF n t K D) (B := 281474976710656) (fun a => ways_bound (t := t) (K := K) (D := D) h8 a))
      have HE : Hid (listS (upsL n t K D i) (waysF n t K D) (upsL n t K D i).length = waysF n t K D i) := by
        rw [hrec]; exact sum_pick _ _ _
      have HV := Lib.hid hav
      clear hav hh
      obtain ⟨l, hl⟩ : ∃ l, (upsL n t K D i).length = l := ⟨_, rfl⟩
      rw [hl] at HU HE HV cr hl8
      have hl' : (l : Int) ≤ 8 := by omega
      go_wp2_with (first
        | (at_lookup; refine wpList_lookup_own_ok_int _ rfl _ _ 97 rfl 3 3 .i64 keyedW Tryd.underlying97 Tryd.underlying3 (zeroW _) bm N Dm rfl hown _ _ rfl hkey ?_; intro c hat2 hwc)
        | go_in)
      go_loopw [8, 24] (fun s q wr => ∃ r : Nat, r ≤ l ∧ s = .int .i64 (listS (upsL n t K D i) (waysF n t K D) r) ∧ q = .int .i64 r ∧ CntS wv bk bx bc bm n t (.slice (some ad) n cv) (waysF n t K D) (N + r * P) wr) (fun _ q _ => l - (intOf q).toNat)
      case atStart => exact ⟨0, by omega, rfl, rfl, HS.out.mono (by omega)⟩
      case round =>
        obtain ⟨r, hr, rfl, rfl, hS⟩ := hrel
        have hrP : r * P ≤ 8 * P := Nat.mul_le_mul_right _ (by omega)
        have hb2 := HR.out r
        obtain ⟨S, hSS⟩ : ∃ S, listS (upsL n t K D i) (waysF n t K D) r = S := ⟨_, rfl⟩
        have HSS := Lib.hid hSS
        rw [hSS] at hb2 ⊢
        clear hSS
        by_cases hlt : r < l
        · obtain ⟨p, hp, hpi, -, -, hF, hsum⟩ := HU.out r hlt
          obtain ⟨ad2, rfl, hal2, hac2⟩ := HV.out r hlt
          have hc1 := hK.low p i hp hi hpi
          have cr2 := (hS.bel.cell (p := ad2.add r) (by rw [block_of_add]; exact hal2)).trans hac2
          rw [hF] at cr2
          have cc2 := hS.cc
          have hcall := ih p wr (N + r * P) hp (by omega) (by omega) hS
          have hWp := ways_bound (t := t) (K := K) (D := D) h8 p
          have hS' : listS (upsL n t K D i) (waysF n t K D) (r + 1) = S + waysF n t K D p := by
            have e : listS (upsL n t K D i) (waysF n t K D) (r + 1) = listS (upsL n t K D i) (waysF n t K D) r + waysF n t K D (atL (upsL n t K D i) r).toNat := rfl
            rw [e, HSS.out, hF]; rfl
          have HS' := Lib.hid hS'
          obtain ⟨Wp, hWpe⟩ : ∃ Wp, waysF n t K D p = Wp := ⟨_, rfl⟩
          rw [hWpe] at hWp hcall
          have HWE := Lib.hid hWpe
          clear hWpe hS' hac2 hsum hc1 hF
          unfold cntV at cc2
          have hlt' : (r : Int) < l := by omega
          go_wp2_with (go_at_call 58; refine hcall.mono ?_; rintro e w2 ⟨rfl, hS2⟩)
          go_roundw
          case rel => exact ⟨r + 1, by omega, by rw [HS'.out, HWE.out], by go_num, hS2.mono (by rw [Nat.succ_mul]; omega)⟩
          case measure => simp [intOf]; omega
        · have hrl : r = l := by omega
          subst hrl
          obtain ⟨D2, hown2, hD2⟩ := hS.own
          have ck2 := hS.ck
          have eW : S = waysF n t K D i := HSS.out.symm.trans HE.out
          subst eW
          have HW := Lib.hid hW
          obtain ⟨Wi, hWi⟩ : ∃ Wi, waysF n t K D i = Wi := ⟨_, rfl⟩
          have hput := fun w1 ho hg => hS.put (i := i) (w' := w1) hb h1 h2 h3 hown2.isMap hD2 ho hg hS.bel.size
          rw [hWi] at hW hput ⊢
          have HWi := Lib.hid hWi
          clear hWi
          go_wp2_with (first
            | (at_mapUpdate; refine wpList_mapUpdate_own _ rfl _ _ _ 97 rfl 3 3 keyedW Tryd.underlying97 _ bm (N + r * P) D2 rfl hown2 (by unfold maxLen; omega) _ _ _ rfl rfl hkey _ [] (plainElem_int Tryd.underlying3 (wf_of (by omega) (by omega))) ?_; intro w1 hown1 hgrow1)
            | go_in)
          go_ret
          exact ⟨by rw [HWi.out]; rfl, (hput _ hown1 hgrow1).mono (by omega)⟩

end Go.Proofs.YtminfghiejgieaaDoor

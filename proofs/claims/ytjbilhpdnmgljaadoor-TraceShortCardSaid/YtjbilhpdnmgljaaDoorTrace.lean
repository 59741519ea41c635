/- The walks of trace.Trace, waywardenref2.TraceFault, TraceOf. -/
import Derived.Test.YtjbilhpdnmgljaaDoorTraceMath
import Derived.Test.YtjbilhpdnmgljaaDoorOwnV
namespace Go.Proofs.YtjbilhpdnmgljaaDoor
open Go.RowKit
set_option linter.unusedVariables false

theorem posT_succ {f : Nat → Nat → Int} {x y k a : Nat} (h : posT f x y k = (a : Int)) : posT f x y (k + 1) = f a y := by
  show (if posT f x y k < 0 then posT f x y k else f (posT f x y k).toNat y) = f a y
  rw [h, if_neg (by omega), Int.toNat_natCast]

theorem Mat.sq_ {w : World} {A : Option Addr} {n : Nat} {L : Nat → Nat} {f : Nat → Nat → Int} (h : Mat w A n L f) (hr : ∀ i, i < n → RowOk n L f i) (i : Nat) (hi : i < n) :
    ∃ ad Ai ci, A = some ad ∧ w.cell? (ad.add i) = some (.slice (some Ai) n ci) ∧ ad.block < w.heap.size ∧ Ai.block < w.heap.size ∧ ∀ j, j < n → w.cell? (Ai.add j) = some (.int .i64 (f i j)) := by
  obtain ⟨ad, Ai, ci, rfl, hlt, hc, hv⟩ := h i hi
  rw [(hr i hi).1] at hc hv
  obtain ⟨Ai', rfl, hl, _⟩ := hv 0 (by omega)
  refine ⟨ad, Ai', ci, rfl, hc, hlt, hl, fun j hj => ?_⟩
  obtain ⟨a', e, _, hc'⟩ := hv j hj
  injection e with e
  subst e
  exact hc'

/-- One number in a slice of one. -/
theorem OwnV.one (w : World) (base : Nat) (hb : base ≤ w.heap.size) (x : Int) (f : Nat → Int) (hf : f 0 = x) : OwnV (w.alloc (.cells #[.int .i64 x] 3)) base (.slice (some ⟨w.heap.size, 0, none⟩) 1 1) 1 f := by
  refine ⟨rfl, .inr ⟨w.heap.size, 1, #[.int .i64 x], rfl, hb, heap_alloc_new w _, Nat.le_refl _, by unfold maxLen; omega, rfl, ?_⟩⟩
  show [Value.int .i64 x] = [.int .i64 (f 0)]
  rw [hf]

def lenV : Value → Nat
  | .slice _ n _ => n
  | _ => 0

set_option maxRecDepth 100000 in
set_option maxHeartbeats 4000000 in
theorem trace_fault (A : Option Addr) (n cA : Nat) (L : Nat → Nat) (f : Nat → Nat → Int) (x y t : Int) (w : World) (hm : Mat w A n L f) (hn : n ≤ 9223372036854775807) (hL : ∀ i, i < n → L i ≤ 9223372036854775807) (v : Int) (h : FaultT n L f x y t v) :
    Calls Tryd.prog 20 #[.slice A n cA, .int .i64 x, .int .i64 y, .int .i64 t] w fun e w' => e = .returned (.tuple #[.slice none 0 0, errNo v]) ∧ Below w.heap.size w w' := by
  have HM := Lib.hid hm
  obtain ⟨lim, hlim, hok, hwhat⟩ : ∃ lim, lim ≤ n ∧ (∀ j, j < lim → RowOk n L f j) ∧ ((lim < n ∧ RowBad n L f lim v) ∨ (lim = n ∧ ¬ ArgsOk n x y t ∧ v = 1)) := by
    rcases h with ⟨i, hi, hj, hb⟩ | ⟨h1, h2, h3⟩
    · exact ⟨i, by omega, hj, .inl ⟨hi, hb⟩⟩
    · exact ⟨n, Nat.le_refl _, h1, .inr ⟨rfl, h2, h3⟩⟩
  have HOK := Lib.hid hok
  have HW := Lib.hid hwhat
  have HLL := Lib.hid hL
  clear hm h hok hwhat hL
  go_enter Tryd.func20, Tryd.ntmps20
  go_wp2_with fail
  go_loopw [20] (fun i wr => ∃ r : Nat, r ≤ lim ∧ i = .int .i64 r ∧ wr = w) (fun i _ => n - (intOf i).toNat)
  case atStart => exact ⟨0, by omega, rfl, rfl⟩
  case round =>
    obtain ⟨r, hr, rfl, rfl⟩ := hrel
    by_cases hlt : r < lim
    · have hlt' : (r : Int) < n := by omega
      obtain ⟨hLr, hrow⟩ := HOK.out r hlt
      obtain ⟨ad, Ai, ci, rfl, hal, hc, hv⟩ := HM.out r (by omega)
      rw [hLr] at hc hv
      have HV := Lib.hid hv
      have HR := Lib.hid hrow
      clear hv hrow hLr hal
      go_wp2_with fail
      go_loopw [31] (fun i wq => ∃ q : Nat, q ≤ n ∧ i = .int .i64 q ∧ wq = wr) (fun i _ => n - (intOf i).toNat)
      case atStart => exact ⟨0, by omega, rfl, rfl⟩
      case round =>
        obtain ⟨q, hq, rfl, rfl⟩ := hrel
        by_cases hql : q < n
        · have hql' : (q : Int) < n := by omega
          obtain ⟨Bi, rfl, hbl, hcq⟩ := HV.out q hql
          have hf0 := (HR.out q hql).1
          have hf1 := (HR.out q hql).2
          have hd0 : decide (f r q < -1) = false := decide_eq_false (by omega)
          have hd1 : decide ((n : Int) ≤ f r q) = false := decide_eq_false (by omega)
          clear hbl
          go_wp2_with fail
          go_roundw
          case rel => exact ⟨q + 1, by omega, by go_num, trivial⟩
          case measure => simp [intOf]; omega
        · have eq : q = n := by omega
          subst eq
          go_wp2_with fail
          go_roundw
          case rel => exact ⟨r + 1, by omega, by go_num, trivial⟩
          case measure => simp [intOf]; omega
    · have er : r = lim := by omega
      subst er
      rcases HW.out with ⟨hrn, hbad⟩ | ⟨hrn, hbad, rfl⟩
      · have hlt' : (r : Int) < n := by omega
        obtain ⟨ad, Ai, ci, rfl, hal, hc, hv⟩ := HM.out r hrn
        have hLr := HLL.out r hrn
        rcases hbad with ⟨hne, rfl⟩ | ⟨heq, rfl, k, hk, hpre, hbk⟩
        · have hd : ((L r : Int) == (n : Int)) = false := beq_false_of_ne (by omega)
          have hd' : (L r == n) = false := beq_false_of_ne hne
          clear hv hal
          go_wp2_with fail
          go_ret2
          exact ⟨rfl, Below.refl _ _⟩
        · rw [heq] at hc hv
          have HV := Lib.hid hv
          have HP := Lib.hid hpre
          have HBK := Lib.hid hbk
          clear hv hal hpre heq hbk hLr
          go_wp2_with fail
          go_loopw [31] (fun i wq => ∃ q : Nat, q ≤ k ∧ i = .int .i64 q ∧ wq = wr) (fun i _ => n - (intOf i).toNat)
          case atStart => exact ⟨0, by omega, rfl, rfl⟩
          case round =>
            obtain ⟨q, hq, rfl, rfl⟩ := hrel
            have hql' : (q : Int) < n := by omega
            obtain ⟨Bi, rfl, hbl, hcq⟩ := HV.out q (by omega)
            clear hbl
            by_cases hqk : q < k
            · have hf0 := (HP.out q hqk).1
              have hf1 := (HP.out q hqk).2
              have hd0 : decide (f r q < -1) = false := decide_eq_false (by omega)
              have hd1 : decide ((n : Int) ≤ f r q) = false := decide_eq_false (by omega)
              go_wp2_with fail
              go_roundw
              case rel => exact ⟨q + 1, by omega, by go_num, trivial⟩
              case measure => simp [intOf]; omega
            · obtain rfl : q = k := by omega
              rcases (show f r q < -1 ∨ (-1 ≤ f r q ∧ (n : Int) ≤ f r q) by have := HBK.out; omega) with hb | ⟨hb0, hb1⟩
              · go_wp2_with fail
                go_ret2
                exact ⟨rfl, Below.refl _ _⟩
              · go_wp2_with fail
                go_ret2
                exact ⟨rfl, Below.refl _ _⟩
      · subst hrn
        rcases (show x < 0 ∨ (0 ≤ x ∧ (r : Int) ≤ x) ∨ (0 ≤ x ∧ x < r ∧ y < 0) ∨ (0 ≤ x ∧ x < r ∧ 0 ≤ y ∧ (r : Int) ≤ y) ∨ (0 ≤ x ∧ x < r ∧ 0 ≤ y ∧ y < r ∧ t < 0) ∨ (0 ≤ x ∧ x < r ∧ 0 ≤ y ∧ y < r ∧ 0 ≤ t ∧ 255 < t) by unfold ArgsOk at hbad; omega) with h1 | ⟨h1, h2⟩ | ⟨h1, h2, h3⟩ | ⟨h1, h2, h3, h4⟩ | ⟨h1, h2, h3, h4, h5⟩ | ⟨h1, h2, h3, h4, h5, h6⟩
        all_goals
          clear hbad
          go_wp2_with fail
          go_ret2
          exact ⟨rfl, Below.refl _ _⟩

/-- What the way comes to. -/
def TraceTold (R : Except Int Nat) (p : Nat → Int) (w : World) (e : Ending) (w' : World) : Prop :=
  (∃ k g c, R = .ok k ∧ e = .returned (.tuple #[.slice (some ⟨g, 0, none⟩) (k + 1) c, .nilIface]) ∧ OwnV w' w.heap.size (.slice (some ⟨g, 0, none⟩) (k + 1) c) (k + 1) p ∧ Below w.heap.size w w') ∨
  (∃ v, R = .error v ∧ e = .returned (.tuple #[.slice none 0 0, errNo v]) ∧ Below w.heap.size w w')

set_option maxRecDepth 100000 in
set_option maxHeartbeats 4000000 in
theorem trace_good (A : Option Addr) (n cA : Nat) (L : Nat → Nat) (f : Nat → Nat → Int) (x y t : Nat) (X Y T : Int) (hX : X = x) (hY : Y = y) (hTT : T = t) (w : World) (hm : Mat w A n L f) (hn : n ≤ 9223372036854775807) (hr : ∀ i, i < n → RowOk n L f i) (hx : x < n) (hy : y < n) (ht : t ≤ 255) :
    Calls Tryd.prog 20 #[.slice A n cA, .int .i64 X, .int .i64 Y, .int .i64 T] w (TraceTold (trRes f x y t) (posT f x y) w) := by
  subst hX hY hTT
  have HM := Lib.hid hm
  have HOK := Lib.hid hr
  have hx' : (x : Int) < n := by omega
  have hy' : (y : Int) < n := by omega
  have ht' : (t : Int) ≤ 255 := by omega
  have hd0 : decide ((x : Int) < 0) = false := decide_eq_false (by omega)
  have hd1 : decide (n ≤ x) = false := decide_eq_false (by omega)
  have hd2 : decide ((y : Int) < 0) = false := decide_eq_false (by omega)
  have hd3 : decide (n ≤ y) = false := decide_eq_false (by omega)
  have hd4 : decide ((t : Int) < 0) = false := decide_eq_false (by omega)
  have hd5 : decide (255 < t) = false := decide_eq_false (by omega)
  have hd6 : decide ((255 : Int) < t) = false := decide_eq_false (by omega)
  obtain ⟨ad, hA⟩ : ∃ ad, A = some ad := by
    obtain ⟨ad, _, _, e, _⟩ := hm x hx
    exact ⟨ad, e⟩
  subst hA
  clear hm hr
  go_enter Tryd.func20, Tryd.ntmps20
  go_wp2_with fail
  go_loopw [20] (fun i wr => ∃ r : Nat, r ≤ n ∧ i = .int .i64 r ∧ wr = w) (fun i _ => n - (intOf i).toNat)
  case atStart => exact ⟨0, by omega, rfl, rfl⟩
  case round =>
    obtain ⟨r, hr, rfl, rfl⟩ := hrel
    by_cases hlt : r < n
    · have hlt' : (r : Int) < n := by omega
      obtain ⟨hLr, hrow⟩ := HOK.out r hlt
      obtain ⟨ad', Ai, ci, e, hc, -, -, hv⟩ := HM.out.sq_ HOK.out r hlt
      injection e with e
      subst e
      have HV := Lib.hid hv
      have HR := Lib.hid hrow
      clear hv hrow hLr
      go_wp2_with fail
      go_loopw [31] (fun i wq => ∃ q : Nat, q ≤ n ∧ i = .int .i64 q ∧ wq = wr) (fun i _ => n - (intOf i).toNat)
      case atStart => exact ⟨0, by omega, rfl, rfl⟩
      case round =>
        obtain ⟨q, hq, rfl, rfl⟩ := hrel
        by_cases hql : q < n
        · have hql' : (q : Int) < n := by omega
          have hcq := HV.out q hql
          have hf0 := (HR.out q hql).1
          have hf1 := (HR.out q hql).2
          have he0 : decide (f r q < -1) = false := decide_eq_false (by omega)
          have he1 : decide ((n : Int) ≤ f r q) = false := decide_eq_false (by omega)
          go_wp2_with fail
          go_roundw
          case rel => exact ⟨q + 1, by omega, by go_num, trivial⟩
          case measure => simp [intOf]; omega
        · have eq : q = n := by omega
          subst eq
          go_wp2_with fail
          go_roundw
          case rel => exact ⟨r + 1, by omega, by go_num, trivial⟩
          case measure => simp [intOf]; omega
    · have er : r = n := by omega
      subst er
      obtain ⟨wo, rfl⟩ : ∃ wo : World, wo = wr := ⟨_, rfl⟩
      have HO1 := Lib.hid (OwnV.one wo wo.heap.size (Nat.le_refl _) x (posT f x y) rfl)
      have HB1 : Hid (Below wo.heap.size wo (wo.alloc (.cells #[.int .i64 x] 3))) := (Below.refl _ _).alloc (Nat.le_refl _) _
      go_wp2_with fail
      go_loopw [1, 15] (fun s o wk => ∃ k a g c : Nat, k ≤ t ∧ s = .int .i64 a ∧ a < r ∧ Hid (posT f x y k = a) ∧ o = .slice (some ⟨g, 0, none⟩) (k + 1) c ∧ OwnV wk wo.heap.size (.slice (some ⟨g, 0, none⟩) (k + 1) c) (k + 1) (posT f x y) ∧ Below wo.heap.size wo wk ∧ Hid (trGo (posT f x y) y t (t + 1 - k) k = trRes f x y t)) (fun _ o _ => t + 2 - lenV o)
      case atStart => exact ⟨0, x, wo.heap.size, 1, by omega, rfl, hx, Lib.hid rfl, rfl, HO1.out, HB1.out, Lib.hid rfl⟩
      case round =>
        obtain ⟨k, a, g, c, hk, rfl, har, hpk, rfl, hown, hb, hgo⟩ := hrel
        have HT := Lib.hid hown
        have HB := Lib.hid hb
        have HPK := hpk
        have HGO := hgo
        have hk255 : k ≤ 255 := by omega
        have hkI : (k : Int) ≤ 255 := by omega
        have HQ := Lib.hid (show t + 1 - k = (t - k) + 1 by omega)
        clear hown hb hpk hgo HO1 HB1
        by_cases hay : a = y
        · have HR : Hid (trRes f x y t = .ok k) := by
            rw [← HGO.out, HQ.out]
            exact trGo_here (by rw [HPK.out, hay])
          subst hay
          go_wp2_with fail
          go_ret2
          exact .inl ⟨k, g, c, HR.out, rfl, HT.out, HB.out⟩
        · have hne : Hid (posT f x y k ≠ y) := by rw [HPK.out]; exact fun e => hay (by omega)
          have hdy : (a == y) = false := beq_false_of_ne hay
          have hdz : ((a : Int) == (y : Int)) = false := beq_false_of_ne (by omega)
          have har' : (a : Int) < r := by omega
          obtain ⟨ad', Ai, ci, e, hc, hal, hAl, hv⟩ := HM.out.sq_ HOK.out a har
          injection e with e
          subst e
          have hc := (HB.out.cell (by rw [block_of_add]; exact hal)).trans hc
          have hv := (HB.out.cell (by rw [block_of_add]; exact hAl)).trans (hv y hy)
          have HZ := Lib.hid (posT_succ HPK.out)
          have HZR := Lib.hid ((HOK.out a har).2 y hy)
          obtain ⟨z, hz⟩ : ∃ z, f a y = z := ⟨_, rfl⟩
          rw [hz] at hv
          have HZZ := Lib.hid hz
          clear hz hal hAl hay
          by_cases hz0 : z < 0
          · have HR : Hid (trRes f x y t = .error 2) := by
              rw [← HGO.out, HQ.out]
              exact trGo_none hne.out (by rw [HZ.out, HZZ.out]; exact hz0)
            have hdn : decide (z < 0) = true := decide_eq_true hz0
            go_wp2_with fail
            go_ret2
            exact .inr ⟨2, HR.out, rfl, HB.out⟩
          · have hzp : Hid (¬ posT f x y (k + 1) < 0) := by rw [HZ.out, HZZ.out]; exact hz0
            have hdn : decide (z < 0) = false := decide_eq_false hz0
            by_cases htk : t ≤ k
            · have HR : Hid (trRes f x y t = .error 4) := by
                rw [← HGO.out, HQ.out]
                exact trGo_full hne.out hzp.out htk
              have htk' : (t : Int) < (k : Int) + 1 := by omega
              have htk2 : t < k + 1 := by omega
              go_wp2_with fail
              go_ret2
              exact .inr ⟨4, HR.out, rfl, HB.out⟩
            · have HR : Hid (trGo (posT f x y) y t (t + 1 - (k + 1)) (k + 1) = trRes f x y t) := by
                rw [← HGO.out, HQ.out, trGo_next hne.out hzp.out htk]
                congr 1
                omega
              have hdk : decide ((t : Int) < (k : Int) + 1) = false := decide_eq_false (by omega)
              have hdk2 : decide (t < k + 1) = false := decide_eq_false (by omega)
              obtain ⟨zn, rfl⟩ : ∃ zn : Nat, z = zn := ⟨z.toNat, by omega⟩
              have hzr : zn < r := by have := HZR.out; have := HZZ.out; omega
              have HP1 : Hid (posT f x y (k + 1) = zn) := HZ.out.trans HZZ.out
              have HKT := Lib.hid (show k + 1 ≤ t by omega)
              have hbs := HB.out.size
              clear hz0 htk
              go_wp2_with (at_builtin; refine wpList_append_int rfl (.tmp 92) (.tmp 94) rfl wo.heap.size _ (k + 1) (posT f x y) rfl (HT.out.alloc _) zn _ rfl (cell_new_at _ _ _ rfl) (by omega) (by simp; omega) ?_)
              intro g3 cap3 w3 hT3 hb3 _ _
              have HT3 : Hid (OwnV w3 wo.heap.size (.slice (some ⟨g3, 0, none⟩) (k + 1 + 1) cap3) (k + 1 + 1) (posT f x y)) := OwnV.congr hT3 fun i hi => by
                unfold upd
                by_cases e : i = k + 1
                · rw [if_pos e, e, HP1.out]
                · rw [if_neg e]
              have HB3 : Hid (Below wo.heap.size wo w3) := (HB.out.alloc HB.out.size _).trans hb3
              clear hT3 hb3 hc hv hbs
              go_wp2_with fail
              go_roundw
              case rel => exact ⟨k + 1, zn, g3, cap3, HKT.out, rfl, hzr, HP1, rfl, HT3.out, HB3.out, HR⟩
              case measure =>
                have := HKT.out
                simp [lenV]
                omega

end Go.Proofs.YtjbilhpdnmgljaaDoor

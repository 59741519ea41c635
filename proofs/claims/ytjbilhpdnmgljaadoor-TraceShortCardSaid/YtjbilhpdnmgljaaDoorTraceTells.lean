/- TraceTells: the walk. -/
import Derived.Test.YtjbilhpdnmgljaaDoorTrace
import Derived.Test.YtjbilhpdnmgljaaDoorInts
import Derived.Test.YtjbilhpdnmgljaaDoorErr
namespace Go.Proofs.YtjbilhpdnmgljaaDoor
open Go.RowKit
set_option linter.unusedVariables false

set_option maxRecDepth 100000 in
set_option maxHeartbeats 4000000 in
theorem traceFault_walk (A : Option Addr) (n cA : Nat) (L : Nat → Nat) (f : Nat → Nat → Int) (x y t : Int) (w : World) (hm : Mat w A n L f) (hn : n ≤ 9223372036854775807) (hL : ∀ i, i < n → L i ≤ 9223372036854775807) (v : Int) (h : (v = 0 ∧ GoodT n L f x y t) ∨ FaultT n L f x y t v) :
    Calls Tryd.prog 18 #[.slice A n cA, .int .i64 x, .int .i64 y, .int .i64 t] w fun e w' => e = .returned (.int .i64 v) ∧ w' = w := by
  have HM := Lib.hid hm
  obtain ⟨lim, hlim, hok, hwhat⟩ : ∃ lim, lim ≤ n ∧ (∀ j, j < lim → RowOk n L f j) ∧ ((lim < n ∧ RowBad n L f lim v) ∨ (lim = n ∧ ¬ ArgsOk n x y t ∧ v = 1) ∨ (lim = n ∧ ArgsOk n x y t ∧ v = 0)) := by
    rcases h with ⟨h1, h2⟩ | ⟨i, hi, hj, hb⟩ | ⟨h1, h2, h3⟩
    · exact ⟨n, Nat.le_refl _, h2.1, .inr (.inr ⟨rfl, h2.2, h1⟩)⟩
    · exact ⟨i, by omega, hj, .inl ⟨hi, hb⟩⟩
    · exact ⟨n, Nat.le_refl _, h1, .inr (.inl ⟨rfl, h2, h3⟩)⟩
  have HOK := Lib.hid hok
  have HW := Lib.hid hwhat
  have HLL := Lib.hid hL
  clear hm h hok hwhat hL
  go_enter Tryd.func18, Tryd.ntmps18
  go_wp2_with fail
  go_loopw [10] (fun i wr => ∃ r : Nat, r ≤ lim ∧ i = .int .i64 r ∧ wr = w) (fun i _ => n - (intOf i).toNat)
  case atStart => exact ⟨0, by omega, rfl, rfl⟩
  case round =>
    obtain ⟨r, hr, rfl, rfl⟩ := hrel
    by_cases hlt : r < lim
    · have hlt' : (r : Int) < n := by omega
      obtain ⟨hLr, hrow⟩ := HOK.out r hlt
      obtain ⟨ad, Ai, ci, rfl, hal, hc, hv⟩ := HM.out r (by omega)
      rw [hLr] at hc hv
      have HV := Lib.hid hv
      have HR := Lib.hid hrow
      clear hv hrow hLr hal
      go_wp2_with fail
      go_loopw [11] (fun i wq => ∃ q : Nat, q ≤ n ∧ i = .int .i64 q ∧ wq = wr) (fun i _ => n - (intOf i).toNat)
      case atStart => exact ⟨0, by omega, rfl, rfl⟩
      case round =>
        obtain ⟨q, hq, rfl, rfl⟩ := hrel
        by_cases hql : q < n
        · have hql' : (q : Int) < n := by omega
          obtain ⟨Bi, rfl, hbl, hcq⟩ := HV.out q hql
          have hf0 := (HR.out q hql).1
          have hf1 := (HR.out q hql).2
          have hd0 : decide (f r q < -1) = false := decide_eq_false (by omega)
          have hd1 : decide ((n : Int) ≤ f r q) = false := decide_eq_false (by omega)
          clear hbl
          go_wp2_with fail
          go_roundw
          case rel => exact ⟨q + 1, by omega, by go_num, trivial⟩
          case measure => simp [intOf]; omega
        · have eq : q = n := by omega
          subst eq
          go_wp2_with fail
          go_roundw
          case rel => exact ⟨r + 1, by omega, by go_num, trivial⟩
          case measure => simp [intOf]; omega
    · have er : r = lim := by omega
      subst er
      rcases HW.out with ⟨hrn, hbad⟩ | ⟨hrn, hbad, rfl⟩ | ⟨hrn, hgood, rfl⟩
      · have hlt' : (r : Int) < n := by omega
        obtain ⟨ad, Ai, ci, rfl, hal, hc, hv⟩ := HM.out r hrn
        have hLr := HLL.out r hrn
        rcases hbad with ⟨hne, rfl⟩ | ⟨heq, rfl, k, hk, hpre, hbk⟩
        · have hd : ((L r : Int) == (n : Int)) = false := beq_false_of_ne (by omega)
          have hd' : (L r == n) = false := beq_false_of_ne hne
          clear hv hal
          go_wp2_with fail
          go_ret
          exact ⟨rfl, rfl⟩
        · rw [heq] at hc hv
          have HV := Lib.hid hv
          have HP := Lib.hid hpre
          have HBK := Lib.hid hbk
          clear hv hal hpre heq hbk hLr
          go_wp2_with fail
          go_loopw [11] (fun i wq => ∃ q : Nat, q ≤ k ∧ i = .int .i64 q ∧ wq = wr) (fun i _ => n - (intOf i).toNat)
          case atStart => exact ⟨0, by omega, rfl, rfl⟩
          case round =>
            obtain ⟨q, hq, rfl, rfl⟩ := hrel
            have hql' : (q : Int) < n := by omega
            obtain ⟨Bi, rfl, hbl, hcq⟩ := HV.out q (by omega)
            clear hbl
            by_cases hqk : q < k
            · have hf0 := (HP.out q hqk).1
              have hf1 := (HP.out q hqk).2
              have hd0 : decide (f r q < -1) = false := decide_eq_false (by omega)
              have hd1 : decide ((n : Int) ≤ f r q) = false := decide_eq_false (by omega)
              go_wp2_with fail
              go_roundw
              case rel => exact ⟨q + 1, by omega, by go_num, trivial⟩
              case measure => simp [intOf]; omega
            · obtain rfl : q = k := by omega
              rcases (show f r q < -1 ∨ (-1 ≤ f r q ∧ (n : Int) ≤ f r q) by have := HBK.out; omega) with hb | ⟨hb0, hb1⟩
              · go_wp2_with fail
                go_ret
                exact ⟨rfl, rfl⟩
              · go_wp2_with fail
                go_ret
                exact ⟨rfl, rfl⟩
      · subst hrn
        rcases (show x < 0 ∨ (0 ≤ x ∧ (r : Int) ≤ x) ∨ (0 ≤ x ∧ x < r ∧ y < 0) ∨ (0 ≤ x ∧ x < r ∧ 0 ≤ y ∧ (r : Int) ≤ y) ∨ (0 ≤ x ∧ x < r ∧ 0 ≤ y ∧ y < r ∧ t < 0) ∨ (0 ≤ x ∧ x < r ∧ 0 ≤ y ∧ y < r ∧ 0 ≤ t ∧ 255 < t) by unfold ArgsOk at hbad; omega) with h1 | ⟨h1, h2⟩ | ⟨h1, h2, h3⟩ | ⟨h1, h2, h3, h4⟩ | ⟨h1, h2, h3, h4, h5⟩ | ⟨h1, h2, h3, h4, h5, h6⟩
        all_goals
          clear hbad
          go_wp2_with fail
          go_ret
          exact ⟨rfl, rfl⟩
      · subst hrn
        obtain ⟨h1, h2, h3, h4, h5, h6⟩ := hgood
        go_wp2_with fail
        go_ret
        exact ⟨rfl, rfl⟩

/-- What the reference's way comes to. -/
def TraceOfTold (R : Except Int Nat) (p : Nat → Int) (w : World) (e : Ending) (w' : World) : Prop :=
  (∃ k g c, R = .ok k ∧ e = .returned (.tuple #[.slice (some ⟨g, 0, none⟩) (k + 1) c, .int .i64 0]) ∧ OwnV w' w.heap.size (.slice (some ⟨g, 0, none⟩) (k + 1) c) (k + 1) p ∧ Below w.heap.size w w') ∨
  (∃ v, R = .error v ∧ e = .returned (.tuple #[.slice none 0 0, .int .i64 v]) ∧ Below w.heap.size w w')

set_option maxRecDepth 100000 in
set_option maxHeartbeats 4000000 in
theorem traceOf_good (A : Option Addr) (n cA : Nat) (L : Nat → Nat) (f : Nat → Nat → Int) (x y t : Nat) (X Y T : Int) (hX : X = x) (hY : Y = y) (hTT : T = t) (w : World) (hm : Mat w A n L f) (hn : n ≤ 9223372036854775807) (hr : ∀ i, i < n → RowOk n L f i) (hx : x < n) (hy : y < n) (ht : t ≤ 255) :
    Calls Tryd.prog 19 #[.slice A n cA, .int .i64 X, .int .i64 Y, .int .i64 T] w (TraceOfTold (trRes f x y t) (posT f x y) w) := by
  subst hX hY hTT
  have HM := Lib.hid hm
  have HOK := Lib.hid hr
  have hx' : (x : Int) < n := by omega
  have hy' : (y : Int) < n := by omega
  have ht' : (t : Int) ≤ 255 := by omega
  obtain ⟨ad, hA⟩ : ∃ ad, A = some ad := by
    obtain ⟨ad, _, _, e, _⟩ := hm x hx
    exact ⟨ad, e⟩
  subst hA
  have HO1 := Lib.hid (OwnV.one w w.heap.size (Nat.le_refl _) x (posT f x y) rfl)
  have HB1 : Hid (Below w.heap.size w (w.alloc (.cells #[.int .i64 x] 3))) := (Below.refl _ _).alloc (Nat.le_refl _) _
  clear hm hr
  go_enter Tryd.func19, Tryd.ntmps19
  go_wp2_with fail
  go_loopw [1, 10, 11] (fun s o i wk => ∃ k a g c : Nat, k ≤ t ∧ s = .int .i64 a ∧ a < n ∧ Hid (posT f x y k = a) ∧ o = .slice (some ⟨g, 0, none⟩) (k + 1) c ∧ i = .int .i64 k ∧ OwnV wk w.heap.size (.slice (some ⟨g, 0, none⟩) (k + 1) c) (k + 1) (posT f x y) ∧ Below w.heap.size w wk ∧ Hid (trGo (posT f x y) y t (t + 1 - k) k = trRes f x y t)) (fun _ o _ _ => t + 2 - lenV o)
  case atStart => exact ⟨0, x, w.heap.size, 1, by omega, rfl, hx, Lib.hid rfl, rfl, rfl, HO1.out, HB1.out, Lib.hid rfl⟩
  case round =>
    obtain ⟨k, a, g, c, hk, rfl, har, hpk, rfl, rfl, hown, hb, hgo⟩ := hrel
    have HT := Lib.hid hown
    have HB := Lib.hid hb
    have HPK := hpk
    have HGO := hgo
    have hk255 : k ≤ 255 := by omega
    have hkI : (k : Int) ≤ 255 := by omega
    have HQ := Lib.hid (show t + 1 - k = (t - k) + 1 by omega)
    clear hown hb hpk hgo HO1 HB1
    by_cases hay : a = y
    · have HR : Hid (trRes f x y t = .ok k) := by
        rw [← HGO.out, HQ.out]
        exact trGo_here (by rw [HPK.out, hay])
      subst hay
      go_wp2_with fail
      go_ret2
      exact .inl ⟨k, g, c, HR.out, rfl, HT.out, HB.out⟩
    · have hne : Hid (posT f x y k ≠ y) := by rw [HPK.out]; exact fun e => hay (by omega)
      have hdy : (a == y) = false := beq_false_of_ne hay
      have hdz : ((a : Int) == (y : Int)) = false := beq_false_of_ne (by omega)
      have har' : (a : Int) < n := by omega
      obtain ⟨ad', Ai, ci, e, hc, hal, hAl, hv⟩ := HM.out.sq_ HOK.out a har
      injection e with e
      subst e
      have hc := (HB.out.cell (by rw [block_of_add]; exact hal)).trans hc
      have hv := (HB.out.cell (by rw [block_of_add]; exact hAl)).trans (hv y hy)
      have HZ := Lib.hid (posT_succ HPK.out)
      have HZR := Lib.hid ((HOK.out a har).2 y hy)
      obtain ⟨z, hz⟩ : ∃ z, f a y = z := ⟨_, rfl⟩
      rw [hz] at hv
      have HZZ := Lib.hid hz
      clear hz hal hAl hay
      by_cases hz0 : z < 0
      · have HR : Hid (trRes f x y t = .error 2) := by
          rw [← HGO.out, HQ.out]
          exact trGo_none hne.out (by rw [HZ.out, HZZ.out]; exact hz0)
        have hdn : decide (z < 0) = true := decide_eq_true hz0
        go_wp2_with fail
        go_ret2
        exact .inr ⟨2, HR.out, rfl, HB.out⟩
      · have hzp : Hid (¬ posT f x y (k + 1) < 0) := by rw [HZ.out, HZZ.out]; exact hz0
        have hdn : decide (z < 0) = false := decide_eq_false hz0
        by_cases htk : k = t
        · have HR : Hid (trRes f x y t = .error 4) := by
            rw [← HGO.out, HQ.out]
            exact trGo_full hne.out hzp.out (by omega)
          subst htk
          go_wp2_with fail
          go_ret2
          exact .inr ⟨4, HR.out, rfl, HB.out⟩
        · have HR : Hid (trGo (posT f x y) y t (t + 1 - (k + 1)) (k + 1) = trRes f x y t) := by
            rw [← HGO.out, HQ.out, trGo_next hne.out hzp.out (by omega)]
            congr 1
            omega
          have hdk : ((k : Int) == (t : Int)) = false := beq_false_of_ne (by omega)
          have hdk2 : (k == t) = false := beq_false_of_ne htk
          obtain ⟨zn, rfl⟩ : ∃ zn : Nat, z = zn := ⟨z.toNat, by omega⟩
          have hzr : zn < n := by have := HZR.out; have := HZZ.out; omega
          have HP1 : Hid (posT f x y (k + 1) = zn) := HZ.out.trans HZZ.out
          have HKT := Lib.hid (show k + 1 ≤ t by omega)
          have hbs := HB.out.size
          clear hz0 htk
          go_wp2_with (at_builtin; refine wpList_append_int rfl (.tmp 37) (.tmp 39) rfl w.heap.size _ (k + 1) (posT f x y) rfl (HT.out.alloc _) zn _ rfl (cell_new_at _ _ _ rfl) (by omega) (by simp; omega) ?_)
          intro g3 cap3 w3 hT3 hb3 _ _
          have HT3 : Hid (OwnV w3 w.heap.size (.slice (some ⟨g3, 0, none⟩) (k + 1 + 1) cap3) (k + 1 + 1) (posT f x y)) := OwnV.congr hT3 fun i hi => by
            unfold upd
            by_cases e : i = k + 1
            · rw [if_pos e, e, HP1.out]
            · rw [if_neg e]
          have HB3 : Hid (Below w.heap.size w w3) := (HB.out.alloc HB.out.size _).trans hb3
          clear hT3 hb3 hc hv hbs
          go_wp2_with fail
          go_roundw
          case rel => exact ⟨k + 1, zn, g3, cap3, HKT.out, rfl, hzr, HP1, rfl, by go_num, HT3.out, HB3.out, HR⟩
          case measure =>
            have := HKT.out
            simp [lenV]
            omega

/-- A slice that is nil reads as nothing. -/
theorem Vec.none_ (w : World) (f : Nat → Int) : Vec w none 0 f := fun j hj => absurd hj (by omega)

/-- The facts' table. -/
theorem mat_two (w : World) : Mat (((w.alloc (.cells #[.int .i64 0, .int .i64 1] 3)).alloc (.cells #[.int .i64 0, .int .i64 1] 3)).alloc (.cells #[.slice (some ⟨w.heap.size, 0, none⟩) 2 2, .slice (some ⟨w.heap.size + 1, 0, none⟩) 2 2] 35))
    (some ⟨w.heap.size + 1 + 1, 0, none⟩) 2 (fun _ => 2) (fun _ j => (j : Int)) := by
  have b0 := ((Blk.new w 3 #[.int .i64 0, .int .i64 1]).alloc (.cells #[.int .i64 0, .int .i64 1] 3)).alloc (.cells #[.slice (some ⟨w.heap.size, 0, none⟩) 2 2, .slice (some ⟨w.heap.size + 1, 0, none⟩) 2 2] 35)
  have b1 := (Blk.new (w.alloc (.cells #[.int .i64 0, .int .i64 1] 3)) 3 #[.int .i64 0, .int .i64 1]).alloc (.cells #[.slice (some ⟨w.heap.size, 0, none⟩) 2 2, .slice (some ⟨w.heap.size + 1, 0, none⟩) 2 2] 35)
  have b2 := Blk.new ((w.alloc (.cells #[.int .i64 0, .int .i64 1] 3)).alloc (.cells #[.int .i64 0, .int .i64 1] 3)) 35 #[.slice (some ⟨w.heap.size, 0, none⟩) 2 2, .slice (some ⟨w.heap.size + 1, 0, none⟩) 2 2]
  rw [show (w.alloc (.cells #[Value.int .i64 0, .int .i64 1] 3)).heap.size = w.heap.size + 1 by simp] at b1
  rw [show ((w.alloc (.cells #[Value.int .i64 0, .int .i64 1] 3)).alloc (.cells #[Value.int .i64 0, .int .i64 1] 3)).heap.size = w.heap.size + 1 + 1 by simp] at b2
  have hv : ∀ {W : World} {g : Nat}, Blk W g 3 #[.int .i64 0, .int .i64 1] → Vec W (some ⟨g, 0, none⟩) 2 (fun j => (j : Int)) := fun {W g} h j hj => ⟨_, rfl, h.lt, by
    rw [Addr.add_lit, Nat.zero_add, h.cell]
    have h : j = 0 ∨ j = 1 := by omega
    rcases h with rfl | rfl <;> rfl⟩
  intro i hi
  have h : i = 0 ∨ i = 1 := by omega
  rcases h with rfl | rfl
  · exact ⟨_, some ⟨w.heap.size, 0, none⟩, 2, rfl, b2.lt, by rw [Addr.add_lit, Nat.zero_add, b2.cell]; rfl, hv b0⟩
  · exact ⟨_, some ⟨w.heap.size + 1, 0, none⟩, 2, rfl, b2.lt, by rw [Addr.add_lit, Nat.zero_add, b2.cell]; rfl, hv b1⟩

theorem two_ok : ∀ i, i < 2 → RowOk 2 (fun _ => 2) (fun _ j => (j : Int)) i := fun i hi => ⟨rfl, fun k hk => by
  show -1 ≤ (k : Int) ∧ (k : Int) < (2 : Nat)
  omega⟩

theorem two_res : trRes (fun _ j => (j : Int)) 0 1 5 = .ok 1 := by rfl

set_option maxRecDepth 100000 in
set_option maxHeartbeats 2000000 in
theorem traced_walk (w : World) :
    Calls Tryd.prog 17 #[] w fun e w' => e = .returned (.bool true) ∧ Below w.heap.size w w' := by
  go_enter Tryd.func17, Tryd.ntmps17
  go_wp2_with fail
  have hcall := trace_good (some ⟨w.heap.size + 1 + 1, 0, none⟩) 2 2 (fun _ => 2) (fun _ j => (j : Int)) 0 1 5 0 1 5 rfl rfl rfl _ (mat_two w) (by omega) two_ok (by omega) (by omega) (by omega)
  refine hcall.mono ?_
  clear hcall
  rintro e w1 hT
  rcases hT with ⟨k, g, c, hk, rfl, hown, hb⟩ | ⟨v, hv, -, -⟩
  · rw [two_res] at hk
    injection hk with hk
    subst hk
    obtain ⟨A, c', e, hV⟩ := hown.vec
    injection e with e1 e2 e3
    subst e1 e3
    have HV := Lib.hid hV
    have HB : Hid (Below w.heap.size w w1) := ((((Below.refl w.heap.size w).alloc (Nat.le_refl _) _).alloc (by simp) _).alloc (by simp; omega) _).trans (hb.mono (by simp; omega))
    clear hown hV hb e2
    go_wp2_with fail
    have hcall := ints_walk (some ⟨g, 0, none⟩) (some ⟨w1.heap.size, 0, none⟩) 2 2 c 2 _ (fun j => (j : Int)) (w1.alloc (.cells #[.int .i64 0, .int .i64 1] 3)) (HV.out.keep ((Below.refl _ _).alloc (Nat.le_refl _) _)) (fun j hj => ⟨_, rfl, (Blk.new w1 3 #[.int .i64 0, .int .i64 1]).lt, by
      rw [Addr.add_lit, Nat.zero_add, (Blk.new w1 3 #[.int .i64 0, .int .i64 1]).cell]
      have h : j = 0 ∨ j = 1 := by omega
      rcases h with rfl | rfl <;> rfl⟩) (by omega) (by omega) true ⟨fun _ => ⟨rfl, fun i hi => by
        have h : i = 0 ∨ i = 1 := by omega
        rcases h with rfl | rfl <;> rfl⟩, fun _ => rfl⟩
    refine hcall.mono ?_
    clear hcall
    rintro e w2 ⟨rfl, k2, rfl⟩
    go_wp2_with fail
    go_ret
    exact ⟨rfl, below_drewN (HB.out.alloc HB.out.size _) _⟩
  · rw [two_res] at hv
    cases hv

set_option maxRecDepth 100000 in
set_option maxHeartbeats 4000000 in
theorem traceTells_walk (A : Option Addr) (n cA : Nat) (L : Nat → Nat) (f : Nat → Nat → Int) (x y t : Int) (w : World) (hg : ErrT w) (hm : Mat w A n L f) (hn : n ≤ 9223372036854775807) (hL : ∀ i, i < n → L i ≤ 9223372036854775807) :
    Calls Tryd.prog 4 #[.slice A n cA, .int .i64 x, .int .i64 y, .int .i64 t] w fun e w' => e = .returned (.bool true) ∧ Below w.heap.size w w' := by
  have HM := Lib.hid hm
  have HG := Lib.hid hg
  have HL := Lib.hid hL
  clear hm hg hL
  go_enter Tryd.func4, Tryd.ntmps4
  go_wp2_with fail
  refine (traced_walk w).mono ?_
  rintro e w1 ⟨rfl, hb1⟩
  have HB1 := Lib.hid hb1
  clear hb1
  go_wp2_with fail
  rcases trace_cases n L f x y t with hgood | ⟨v, hv, hf⟩
  · have HGT := Lib.hid hgood
    obtain ⟨X, hX⟩ : ∃ X : Nat, x = X := ⟨x.toNat, by have := hgood.2.1; omega⟩
    obtain ⟨Y, hY⟩ : ∃ Y : Nat, y = Y := ⟨y.toNat, by have := hgood.2.2.2.1; omega⟩
    obtain ⟨T, hT⟩ : ∃ T : Nat, t = T := ⟨t.toNat, by have := hgood.2.2.2.2.2.1; omega⟩
    have hXn : X < n := by have := hgood.2.2.1; omega
    have hYn : Y < n := by have := hgood.2.2.2.2.1; omega
    have hT255 : T ≤ 255 := by have := hgood.2.2.2.2.2.2; omega
    have HX := Lib.hid hX
    have HY := Lib.hid hY
    have HT := Lib.hid hT
    clear hgood hX hY hT
    have hcall := traceFault_walk A n cA L f x y t w1 (HM.out.keep HB1.out) hn HL.out 0 (.inl ⟨rfl, HGT.out⟩)
    refine hcall.mono ?_
    clear hcall
    rintro e w2 ⟨rfl, rfl⟩
    go_wp2_with fail
    have hcall := traceOf_good A n cA L f X Y T x y t HX.out HY.out HT.out _ (HM.out.keep HB1.out) hn HGT.out.1 hXn hYn hT255
    refine hcall.mono ?_
    clear hcall
    rintro e w2 hto
    rcases hto with ⟨k, g, c, hk, rfl, hown, hb⟩ | ⟨v, hv, rfl, hb⟩
    · have HK := Lib.hid hk
      have HO := Lib.hid hown
      have HB2 := Lib.hid (keep HB1.out hb)
      clear hk hown hb HB1
      go_wp2_with fail
      have hcall := trace_good A n cA L f X Y T x y t HX.out HY.out HT.out w2 (HM.out.keep HB2.out) hn HGT.out.1 hXn hYn hT255
      refine hcall.mono ?_
      clear hcall
      rintro e w3 hto
      rcases hto with ⟨k', g', c', hk', rfl, hown', hb'⟩ | ⟨v, hv, -, -⟩
      · rw [HK.out] at hk'
        injection hk' with hk'
        subst hk'
        obtain ⟨A1, c1, e1, hV1⟩ := (HO.out.below hb').vec
        injection e1 with e1 _ e3
        subst e1 e3
        obtain ⟨A2, c2, e2, hV2⟩ := hown'.vec
        injection e2 with e2 _ e4
        subst e2 e4
        have HV1 := Lib.hid hV1
        have HV2 := Lib.hid hV2
        have HB3 := Lib.hid (keep HB2.out hb')
        have hk255 : k ≤ T := (trGo_ok _ _ _ HK.out).2.2.2 (Nat.zero_le _)
        clear hown' hb' hV1 hV2 HB2 HO
        go_wp2_with fail
        refine (err_nil 0 true ⟨fun _ => rfl, fun _ => rfl⟩ w3).mono ?_
        rintro e w4 ⟨rfl, hb4⟩
        have HV14 := Lib.hid (HV1.out.keep hb4)
        have HV24 := Lib.hid (HV2.out.keep hb4)
        have HB4 := Lib.hid (keep HB3.out hb4)
        clear hb4 HB3 HV1 HV2
        go_wp2_with fail
        have hcall := ints_walk (some ⟨g', 0, none⟩) (some ⟨g, 0, none⟩) (k + 1) (k + 1) c' c _ _ w4 HV24.out HV14.out (by omega) (by omega) true ⟨fun _ => ⟨rfl, fun _ _ => rfl⟩, fun _ => rfl⟩
        refine hcall.mono ?_
        clear hcall
        rintro e w5 ⟨rfl, k5, rfl⟩
        go_wp2_with fail
        go_ret
        exact ⟨rfl, below_drewN HB4.out _⟩
      · rw [HK.out] at hv
        cases hv
    · have HK := Lib.hid hv
      have HB2 := Lib.hid (keep HB1.out hb)
      clear hv hb HB1
      go_wp2_with fail
      have hcall := trace_good A n cA L f X Y T x y t HX.out HY.out HT.out w2 (HM.out.keep HB2.out) hn HGT.out.1 hXn hYn hT255
      refine hcall.mono ?_
      clear hcall
      rintro e w3 hto
      rcases hto with ⟨k', g', c', hk', -, -, -⟩ | ⟨v', hv', rfl, hb'⟩
      · rw [HK.out] at hk'
        cases hk'
      · rw [HK.out] at hv'
        injection hv' with hv'
        subst hv'
        have HB3 := Lib.hid (keep HB2.out hb')
        clear hb' HB2
        go_wp2_with fail
        refine (err_no v v true ⟨fun _ => rfl, fun _ => rfl⟩ w3 (HG.out.keep HB3.out)).mono ?_
        rintro e w4 ⟨rfl, hb4⟩
        have HB4 := Lib.hid (keep HB3.out hb4)
        clear hb4 HB3
        go_wp2_with fail
        have hcall := ints_walk none none 0 0 0 0 (fun _ => 0) (fun _ => 0) w4 (Vec.none_ _ _) (Vec.none_ _ _) (by omega) (by omega) true ⟨fun _ => ⟨rfl, fun _ _ => rfl⟩, fun _ => rfl⟩
        refine hcall.mono ?_
        clear hcall
        rintro e w5 ⟨rfl, k5, rfl⟩
        go_wp2_with fail
        go_ret
        exact ⟨rfl, below_drewN HB4.out _⟩
  · have HF := Lib.hid hf
    clear hf
    have hcall := traceFault_walk A n cA L f x y t w1 (HM.out.keep HB1.out) hn HL.out v (.inr HF.out)
    refine hcall.mono ?_
    clear hcall
    rintro e w2 ⟨rfl, rfl⟩
    have hd : (v == 0) = false := beq_false_of_ne (by omega)
    clear hv
    go_wp2_with fail
    have hcall := trace_fault A n cA L f x y t _ (HM.out.keep HB1.out) hn HL.out v HF.out
    refine hcall.mono ?_
    clear hcall
    rintro e w3 ⟨rfl, hb3⟩
    have HB3 := Lib.hid (keep HB1.out hb3)
    clear hb3 HB1
    go_wp2_with fail
    refine (err_no v v true ⟨fun _ => rfl, fun _ => rfl⟩ w3 (HG.out.keep HB3.out)).mono ?_
    rintro e w4 ⟨rfl, hb4⟩
    have HB4 := Lib.hid (keep HB3.out hb4)
    clear hb4 HB3
    go_wp2_with fail
    have hcall := ints_walk none none 0 0 0 0 (fun _ => 0) (fun _ => 0) w4 (Vec.none_ _ _) (Vec.none_ _ _) (by omega) (by omega) true ⟨fun _ => ⟨rfl, fun _ _ => rfl⟩, fun _ => rfl⟩
    refine hcall.mono ?_
    clear hcall
    rintro e w5 ⟨rfl, k5, rfl⟩
    go_wp2_with fail
    go_ret
    exact ⟨rfl, below_drewN HB4.out _⟩

end Go.Proofs.YtjbilhpdnmgljaaDoor

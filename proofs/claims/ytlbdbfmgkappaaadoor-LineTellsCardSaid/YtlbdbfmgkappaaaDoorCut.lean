/- The walks of slices.DeleteFunc of links, graph.Cut. -/
import Derived.Test.YtlbdbfmgkappaaaDoorLinks
import Derived.Test.YtlbdbfmgkappaaaDoorPlain
namespace Go.Proofs.YtlbdbfmgkappaaaDoor
open Go.RowKit
set_option linter.unusedVariables false

/-- f, without what stands at j. -/
def dropF (j : Nat) (f : Nat → Int) (t : Nat) : Int := if t < j then f t else f (t + 1)
/-- In the middle of that: all up to q has moved. -/
def delF (j q : Nat) (f : Nat → Int) (t : Nat) : Int := if t < j then f t else if t < q then f (t + 1) else f t

theorem delF_start (j : Nat) (f : Nat → Int) (t : Nat) : delF j j f t = f t := by
  unfold delF
  by_cases h : t < j
  · rw [if_pos h]
  · rw [if_neg h, if_neg h]
theorem delF_at (j q : Nat) (f : Nat → Int) (h : j ≤ q) : delF j q f (q + 1) = f (q + 1) := by unfold delF; rw [if_neg (by omega), if_neg (by omega)]
theorem delF_next (j q : Nat) (f : Nat → Int) (h : j ≤ q) (t : Nat) : (if t = q then f (q + 1) else delF j q f t) = delF j (q + 1) f t := by
  unfold delF
  by_cases e : t = q
  · subst e; rw [if_pos rfl, if_neg (by omega), if_pos (by omega)]
  · rw [if_neg e]
    by_cases h1 : t < j
    · rw [if_pos h1, if_pos h1]
    · rw [if_neg h1, if_neg h1]
      by_cases h2 : t < q
      · rw [if_pos h2, if_pos (by omega)]
      · rw [if_neg h2, if_neg (by omega)]
theorem delF_end (j q : Nat) (f : Nat → Int) (t : Nat) (h : t < q) : delF j q f t = dropF j f t := by
  unfold delF dropF
  by_cases h1 : t < j
  · rw [if_pos h1, if_pos h1]
  · rw [if_neg h1, if_neg h1, if_pos h]

theorem linkC_upd (A B C : Nat → Int) (r : Nat) (x y z : Int) (t : Nat) : upd (upd (upd (linkC A B C) (r * 3) (.int .i64 x)) (r * 3 + 1) (.int .i64 y)) (r * 3 + 2) (.int .i64 z) t = linkC (fun t => if t = r then x else A t) (fun t => if t = r then y else B t) (fun t => if t = r then z else C t) t := by
  unfold upd linkC
  by_cases h2 : t = r * 3 + 2
  · subst h2
    rw [if_pos rfl, if_neg (by omega), if_neg (by omega)]
    dsimp only
    rw [if_pos (by omega)]
  · rw [if_neg h2]
    by_cases h1 : t = r * 3 + 1
    · subst h1
      rw [if_pos rfl, if_neg (by omega), if_pos (by omega)]
      dsimp only
      rw [if_pos (by omega)]
    · rw [if_neg h1]
      by_cases h0 : t = r * 3
      · subst h0
        rw [if_pos rfl, if_pos (by omega)]
        dsimp only
        rw [if_pos (by omega)]
      · rw [if_neg h0]
        have e : t / 3 ≠ r := by omega
        simp only [if_neg e]

theorem zeroLink (w : World) : (zeroValue 31).run Tryd.prog w = .ok (.agg #[.int .i64 0, .int .i64 0, .int .i64 0]) w := by kernel_rfl

set_option maxRecDepth 100000 in
set_option maxHeartbeats 1000000 in
theorem deleteFn_none (g m cp : Nat) (a b c : Nat → Int) (u v : Int) (p q : Nat) (w : World) (hr : RowP w g 31 (m * 3) (linkC a b c)) (hm : m ≤ 1000000000000) (hu : w.cell? ⟨p, 0, none⟩ = some (.int .i64 u)) (hv : w.cell? ⟨q, 0, none⟩ = some (.int .i64 v))
    (hn : ∀ j, j < m → ¬ Mt a b j u v) :
    Calls Tryd.prog 75 #[.slice (some ⟨g, 0, none⟩) m cp, .func (.func 76) #[] #[.pointer (some ⟨p, 0, none⟩), .pointer (some ⟨q, 0, none⟩)]] w fun e w' => e = .returned (.slice (some ⟨g, 0, none⟩) m cp) ∧ Below w.heap.size w w' := by
  have HR := Lib.hid hr
  have HN := Lib.hid hn
  have HU := Lib.hid hu
  have HV := Lib.hid hv
  clear hr hn hu hv
  go_enter Tryd.func75, Tryd.ntmps75
  go_wp2_with fail
  have hcall := indexFn g m cp a b c u v p q w HR.out hm HU.out HV.out (-1) m (Nat.le_refl _) HN.out (.inl ⟨rfl, rfl⟩)
  refine hcall.mono ?_
  clear hcall
  rintro e w2 ⟨rfl, hb⟩
  have HB := Lib.hid hb
  clear hb
  go_wp2_with fail
  go_ret
  exact ⟨rfl, HB.out⟩

set_option maxRecDepth 100000 in
set_option maxHeartbeats 2000000 in
theorem deleteFn_one (g m cp : Nat) (a b c : Nat → Int) (u v : Int) (p q j : Nat) (w : World) (hr : RowP w g 31 (m * 3) (linkC a b c)) (hm : m ≤ 1000000000000) (hmc : m ≤ cp) (hu : w.cell? ⟨p, 0, none⟩ = some (.int .i64 u)) (hv : w.cell? ⟨q, 0, none⟩ = some (.int .i64 v))
    (hpg : p ≠ g) (hqg : q ≠ g) (hj : j < m) (hn : ∀ i, i < m → (Mt a b i u v ↔ i = j)) :
    Calls Tryd.prog 75 #[.slice (some ⟨g, 0, none⟩) m cp, .func (.func 76) #[] #[.pointer (some ⟨p, 0, none⟩), .pointer (some ⟨q, 0, none⟩)]] w fun e w' => e = .returned (.slice (some ⟨g, 0, none⟩) (m - 1) cp) ∧ RowP w' g 31 ((m - 1) * 3) (linkC (dropF j a) (dropF j b) (dropF j c)) ∧ Touch (· = g) w w' := by
  have HPL := Lib.hid (World.block_lt_of_cell? w _ hu)
  have HQL := Lib.hid (World.block_lt_of_cell? w _ hv)
  have HR := Lib.hid hr
  have HN := Lib.hid hn
  have HU := Lib.hid hu
  have HV := Lib.hid hv
  have HPG := Lib.hid hpg
  have HQG := Lib.hid hqg
  clear hr hn hu hv hpg hqg
  go_enter Tryd.func75, Tryd.ntmps75
  go_wp2_with fail
  have hcall := indexFn g m cp a b c u v p q w HR.out hm HU.out HV.out j j (by omega) (fun i hi h => by have := (HN.out i (by omega)).1 h; omega) (.inr ⟨rfl, hj, (HN.out j hj).2 rfl⟩)
  refine hcall.mono ?_
  clear hcall
  rintro e w2 ⟨rfl, hb⟩
  have HR2 := Lib.hid (HR.out.below hb HR.out.lt)
  have HT : Hid (Touch (· = g) w w2) := Touch.of_below hb
  clear hb HR
  have hj' : (j : Int) < m := by omega
  have hjb : (j : Int) ≤ 1000000000000 := by omega
  have hd1 : ((j : Int) == -1) = false := beq_false_of_ne (by omega)
  go_wp2_with fail
  go_loopw [5, 6] (fun i k wr => ∃ r : Nat, j ≤ r ∧ r + 1 ≤ m ∧ i = .int .i64 r ∧ k = .int .i64 ((r : Int) + 1) ∧ RowP wr g 31 (m * 3) (linkC (delF j r a) (delF j r b) (delF j r c)) ∧ Touch (· = g) w wr) (fun i _ _ => m - (intOf i).toNat)
  case atStart => exact ⟨j, Nat.le_refl _, by omega, rfl, rfl, HR2.out.congr fun t _ => by unfold linkC; simp only [delF_start], HT.out⟩
  case round =>
    obtain ⟨r, hjr, hrm, rfl, rfl, hrow, ht⟩ := hrel
    clear HR2 HT
    have HR := Lib.hid hrow
    have HT := Lib.hid ht
    clear hrow ht
    by_cases hlt : r + 1 < m
    · have hlt' : (r : Int) + 1 < m := by omega
      have hrm' : (r : Int) < m := by omega
      have hr9 : (r : Int) ≤ 1000000000000 := by omega
      have hu : wr.cell? ⟨p, 0, none⟩ = some (.int .i64 u) := by
        rw [← HU.out]; unfold World.cell?; rw [HT.out.block p HPL.out HPG.out]
      have hv : wr.cell? ⟨q, 0, none⟩ = some (.int .i64 v) := by
        rw [← HV.out]; unfold World.cell?; rw [HT.out.block q HQL.out HQG.out]
      obtain ⟨hc0, hc1, hc2⟩ := HR.out.link_cells hlt
      rw [delF_at j r a hjr] at hc0
      rw [delF_at j r b hjr] at hc1
      rw [delF_at j r c hjr] at hc2
      have HM := Lib.hid (mtB_no fun h => by have := (HN.out (r + 1) hlt).1 h; omega : mtB (a (r + 1)) (b (r + 1)) u v = false)
      obtain ⟨xa, hxa⟩ : ∃ xa, a (r + 1) = xa := ⟨_, rfl⟩
      obtain ⟨xb, hxb⟩ : ∃ xb, b (r + 1) = xb := ⟨_, rfl⟩
      obtain ⟨xc, hxc⟩ : ∃ xc, c (r + 1) = xc := ⟨_, rfl⟩
      rw [hxa] at hc0
      rw [hxb] at hc1
      rw [hxc] at hc2
      have HM2 : Hid (mtB xa xb u v = false) := by rw [← hxa, ← hxb]; exact HM.out
      have HXA := Lib.hid hxa
      have HXB := Lib.hid hxb
      have HXC := Lib.hid hxc
      clear hxa hxb hxc HM
      go_wp2_with fail
      have hcall := cutFn xa xb xc u v ⟨p, 0, none⟩ ⟨q, 0, none⟩ (wr.alloc (.cells #[.int .i64 xa, .int .i64 xb, .int .i64 xc] 31)) (Lib.cell?_alloc_some _ hu) (Lib.cell?_alloc_some _ hv) false HM2.out
      refine hcall.mono ?_
      clear hcall
      rintro e w3 ⟨rfl, rfl⟩
      obtain ⟨w3, hw3⟩ : ∃ w3, w3 = (wr.alloc (.cells #[.int .i64 xa, .int .i64 xb, .int .i64 xc] 31)).alloc (.cells #[.int .i64 xa, .int .i64 xb, .int .i64 xc] 31) := ⟨_, rfl⟩
      rw [← hw3]
      have hB3 : Below wr.heap.size wr w3 := by rw [hw3]; exact ((Below.refl _ _).alloc (Nat.le_refl _) _).alloc (by simp) _
      have hx0 : w3.cell? ⟨wr.heap.size, 0, none⟩ = some (.int .i64 xa) := by rw [hw3]; exact Lib.cell?_alloc_some _ (by simp)
      have hx1 : w3.cell? ⟨wr.heap.size, 1, none⟩ = some (.int .i64 xb) := by rw [hw3]; exact Lib.cell?_alloc_some _ (by simp)
      have hx2 : w3.cell? ⟨wr.heap.size, 2, none⟩ = some (.int .i64 xc) := by rw [hw3]; exact Lib.cell?_alloc_some _ (by simp)
      clear hw3 hu hv hc0 hc1 hc2
      have HR3 := Lib.hid (HR.out.below hB3 HR.out.lt)
      have HT3 : Hid (Touch (· = g) w w3) := HT.out.trans (Touch.of_below hB3)
      obtain ⟨hy0, hy1, hy2⟩ := HR3.out.link_cells (show r < m by omega)
      have hz0 := HR3.out.frozen (r * 3)
      have hz1 := HR3.out.frozen (r * 3 + 1)
      have hz2 := HR3.out.frozen (r * 3 + 2)
      have HX : Hid (RowP (((w3.setCell ⟨g, r * 3, none⟩ (.int .i64 xa)).setCell ⟨g, r * 3 + 1, none⟩ (.int .i64 xb)).setCell ⟨g, r * 3 + 2, none⟩ (.int .i64 xc)) g 31 (m * 3) (linkC (delF j (r + 1) a) (delF j (r + 1) b) (delF j (r + 1) c))) :=
        (((HR3.out.set (r * 3) (.int .i64 xa)).set (r * 3 + 1) (.int .i64 xb)).set (r * 3 + 2) (.int .i64 xc)).congr fun t _ => by
          rw [linkC_upd]
          have ea : (fun t => if t = r then xa else delF j r a t) = delF j (r + 1) a := funext fun t => by rw [← HXA.out]; exact delF_next j r a hjr t
          have eb : (fun t => if t = r then xb else delF j r b t) = delF j (r + 1) b := funext fun t => by rw [← HXB.out]; exact delF_next j r b hjr t
          have ec : (fun t => if t = r then xc else delF j r c t) = delF j (r + 1) c := funext fun t => by rw [← HXC.out]; exact delF_next j r c hjr t
          rw [ea, eb, ec]
      have HTX : Hid (Touch (· = g) w (((w3.setCell ⟨g, r * 3, none⟩ (.int .i64 xa)).setCell ⟨g, r * 3 + 1, none⟩ (.int .i64 xb)).setCell ⟨g, r * 3 + 2, none⟩ (.int .i64 xc))) :=
        ((HT3.out.setCell (.inl rfl) _).setCell (.inl rfl) _).setCell (.inl rfl) _
      clear hB3 HR HT
      go_wp2_with fail
      go_roundw
      case rel => exact ⟨r + 1, by omega, by omega, by go_num, by go_num, HX.out, HTX.out⟩
      case measure => simp [intOf]; omega
    · obtain rfl : m = r + 1 := by omega
      have hclear : (Builtin.clear_ #[22] 0 #[.slice (some ⟨g, r * 3, none⟩) 1 (cp - r)]).run Tryd.prog wr = .ok (.tuple #[]) (wr.setCells g (r * 3) [.int .i64 0, .int .i64 0, .int .i64 0]) := by
        have hst := run_storeCells_cells (P := Tryd.prog) g (r * 3) [.int .i64 0, .int .i64 0, .int .i64 0] 0 wr (fun i hi => by
          have hi : i < 3 := hi
          have := HR.out.cell (show r * 3 + i < (r + 1) * 3 by omega)
          rw [Nat.add_zero, this]; rfl) (fun i _ => HR.out.frozen _) (by simp [Value.oneCell'])
        simp only [Nat.add_zero] at hst
        have hzc : (Builtin.zeroCells (Value.agg #[.int .i64 0, .int .i64 0, .int .i64 0]).cells 1).toList = [.int .i64 0, .int .i64 0, .int .i64 0] := by kernel_rfl
        simp [Builtin.clear_, run_underlying Tryd.underlying22, zeroLink wr, hzc, hst]
      have HX : Hid (RowP (wr.setCells g (r * 3) [.int .i64 0, .int .i64 0, .int .i64 0]) g 31 (r * 3) (linkC (dropF j a) (dropF j b) (dropF j c))) :=
        ((((HR.out.less (show r * 3 ≤ (r + 1) * 3 by omega)).set (r * 3) (.int .i64 0)).set (r * 3 + 1) (.int .i64 0)).set (r * 3 + 1 + 1) (.int .i64 0)).congr fun t ht => by
          rw [upd_other _ _ (by omega), upd_other _ _ (by omega), upd_other _ _ (by omega)]
          unfold linkC
          rw [delF_end j r a _ (by omega), delF_end j r b _ (by omega), delF_end j r c _ (by omega)]
      have HTX : Hid (Touch (· = g) w (wr.setCells g (r * 3) [.int .i64 0, .int .i64 0, .int .i64 0])) :=
        ((HT.out.setCell (p := ⟨g, r * 3, none⟩) (.inl rfl) _).setCell (p := ⟨g, r * 3 + 1, none⟩) (.inl rfl) _).setCell (p := ⟨g, r * 3 + 1 + 1, none⟩) (.inl rfl) _
      have hrc : (r : Int) ≤ cp := by omega
      generalize wr.setCells g (r * 3) [.int .i64 0, .int .i64 0, .int .i64 0] = w9 at hclear HX HTX
      go_wp2_with fail
      go_ret
      exact ⟨rfl, HX.out, HTX.out⟩

/-- Right links are few. -/
theorem right_small {n m : Nat} {a b c : Nat → Int} (hr : Right n m a b c) (hn : n ≤ 8) : m ≤ 64 := by
  refine pigeon 64 m (fun j => min (nA a j) (nA b j) * 8 + max (nA a j) (nA b j)) (fun j hj => ?_) fun i j hi hj e => ?_
  · obtain ⟨h1, h2, -⟩ := right_nat hr hj
    show min (nA a j) (nA b j) * 8 + max (nA a j) (nA b j) < 64
    omega
  · obtain ⟨h1, h2, -⟩ := right_nat hr hi
    obtain ⟨h3, h4, -⟩ := right_nat hr hj
    have e : min (nA a i) (nA b i) * 8 + max (nA a i) (nA b i) = min (nA a j) (nA b j) * 8 + max (nA a j) (nA b j) := e
    exact Edge.idx (u := nA a i) (v := nA b i) hr hi hj (.inl ⟨rfl, rfl⟩) (by omega)

/-- Where the t-th stood that is left. -/
def skipN (j t : Nat) : Nat := if t < j then t else t + 1
theorem dropF_skip (j : Nat) (f : Nat → Int) (t : Nat) : dropF j f t = f (skipN j t) := by
  unfold dropF skipN
  split <;> rfl
theorem skipN_lt {j t m : Nat} (hj : j < m) (ht : t < m - 1) : skipN j t < m := by unfold skipN; split <;> omega
theorem skipN_ne (j t : Nat) : skipN j t ≠ j := by unfold skipN; split <;> omega
theorem skipN_mono {j s t : Nat} (h : s < t) : skipN j s < skipN j t := by unfold skipN; split <;> split <;> omega
theorem skipN_of {j i m : Nat} (hj : j < m) (hi : i < m) (hne : i ≠ j) : ∃ t, t < m - 1 ∧ skipN j t = i := by
  by_cases h : i < j
  · exact ⟨i, by omega, by unfold skipN; rw [if_pos h]⟩
  · exact ⟨i - 1, by omega, by unfold skipN; rw [if_neg (by omega)]; omega⟩

section
variable {n m j : Nat} {a b c : Nat → Int}
theorem right_drop (hr : Right n m a b c) (hj : j < m) : Right n (m - 1) (dropF j a) (dropF j b) (dropF j c) := by
  intro t ht
  rw [dropF_skip, dropF_skip, dropF_skip]
  obtain ⟨h1, h2, h3⟩ := hr (skipN j t) (skipN_lt hj ht)
  refine ⟨h1, h2, fun s hs => ?_⟩
  rw [dropF_skip, dropF_skip]
  exact h3 _ (skipN_mono hs)
theorem nA_drop (f : Nat → Int) (t : Nat) : nA (dropF j f) t = nA f (skipN j t) := by unfold nA; rw [dropF_skip]
theorem edge_drop (hj : j < m) {u v : Nat} {k : Int} : Edge (m - 1) (dropF j a) (dropF j b) (dropF j c) u v k ↔ ∃ i, i < m ∧ i ≠ j ∧ c i = k ∧ ((nA a i = u ∧ nA b i = v) ∨ (nA a i = v ∧ nA b i = u)) := by
  constructor
  · rintro ⟨t, ht, hc, h⟩
    rw [dropF_skip] at hc
    rw [nA_drop, nA_drop] at h
    exact ⟨skipN j t, skipN_lt hj ht, skipN_ne j t, hc, h⟩
  · rintro ⟨i, hi, hne, hc, h⟩
    obtain ⟨t, ht, rfl⟩ := skipN_of hj hi hne
    exact ⟨t, ht, by rw [dropF_skip]; exact hc, by rw [nA_drop, nA_drop]; exact h⟩

/-- A cost without a link: none where the link was, else the same. -/
theorem costF_drop (hr : Right n m a b c) (hj : j < m) (i k : Nat) :
    costF (m - 1) (dropF j a) (dropF j b) (dropF j c) i k = if (i = nA a j ∧ k = nA b j) ∨ (i = nA b j ∧ k = nA a j) then 16 else costF m a b c i k := by
  have hd := right_drop hr hj
  unfold costF
  by_cases h : (i = nA a j ∧ k = nA b j) ∨ (i = nA b j ∧ k = nA a j)
  · rw [if_pos h]
    rcases costV_cases hd i k with ⟨e, -⟩ | ⟨-, e, -⟩ | ⟨-, he⟩
    · obtain ⟨-, -, hne, -⟩ := right_nat hr hj
      omega
    · exact e
    · obtain ⟨i', hi', hne, -, h'⟩ := (edge_drop hj).1 he
      exact absurd (Edge.idx (u := i) (v := k) hr hi' hj h' (by omega)) hne
  · rw [if_neg h]
    rcases costV_cases hr i k with ⟨e, e'⟩ | ⟨hne, e, hno⟩ | ⟨hne, he⟩
    · subst e
      rw [e', costV_same]
    · rw [e]
      rcases costV_cases hd i k with ⟨e', -⟩ | ⟨-, e', -⟩ | ⟨-, he⟩
      · exact absurd e' hne
      · exact e'
      · obtain ⟨i', hi', -, hc', h'⟩ := (edge_drop hj).1 he
        exact absurd ⟨i', hi', hc', h'⟩ (hno _)
    · obtain ⟨i', hi', hc', h'⟩ := he
      refine costV_edge hd ((edge_drop hj).2 ⟨i', hi', fun e => ?_, hc', h'⟩)
      subst e
      exact h (by omega)
end

set_option maxRecDepth 100000 in
set_option maxHeartbeats 1000000 in
theorem clone_links_nil (A : Option Addr) (cp : Nat) (w : World) :
    Calls Tryd.prog 49 #[.slice A 0 cp] w fun e w' => ∃ B c', e = .returned (.slice B 0 c') ∧ Below w.heap.size w w' := by
  cases A with
  | none =>
    have hnil : ∀ w', (binOp .eql 22 (.slice none 0 cp) (.slice none 0 0)).run Tryd.prog w' = .ok (.bool true) w' := fun w' => Lib.run_eql_slice_nil w' 22 31 none 0 cp 0 0 Tryd.underlying22
    go_enter Tryd.func49, Tryd.ntmps49
    go_wp2_with fail
    go_ret
    exact ⟨none, 0, rfl, Below.refl _ _⟩
  | some ad =>
    obtain ⟨i0, hi0, hz0, hz1, hz2⟩ := info_parts infoLink
    have HI := Lib.hid hi0
    have HZ := Lib.hid hz0
    have HZ1 := Lib.hid hz1
    have HZ2 := Lib.hid hz2
    clear hi0 hz0 hz1 hz2
    have HO : Hid ((w.alloc (.cells #[] 31)).ownsRow w.heap.size 31 3 (.slice (some ⟨w.heap.size, 0, none⟩) 0 0) 0 []) :=
      ⟨rfl, .inr ⟨w.heap.size, 0, #[], rfl, Nat.le_refl _, heap_alloc_new w _, Nat.le_refl _, Nat.zero_le _, rfl, rfl⟩⟩
    have hnil : ∀ w', (binOp .eql 22 (.slice (some ad) 0 cp) (.slice none 0 0)).run Tryd.prog w' = .ok (.bool false) w' := fun w' => Lib.run_eql_slice_nil w' 22 31 (some ad) 0 cp 0 0 Tryd.underlying22
    go_enter Tryd.func49, Tryd.ntmps49
    go_wp2_with (at_builtin; refine wpList_append_own_at _ rfl (.tmp 5) (.tmp 6) 22 rfl w.heap.size 31 i0 _ 3 24 Tryd.underlying22 HI.out HZ.out HZ1.out HZ2.out rfl (by decide) _ 0 [] rfl HO.out ad 0 cp [] rfl rfl (fun j u h => by simp at h) (fun u h => by cases h) (by unfold maxLen; omega) (by omega) (by simp) ?_)
    intro v1 w1 hown hgr hnz _
    have HB : Hid (Below w.heap.size w w1) := (Below.alloc (Below.refl _ _) (Nat.le_refl _) _).grown hgr (by simp) (fun k hk => by
      have : k = w.heap.size := by simpa [Value.ownBlock] using hk.symm
      omega)
    have hv : ∃ B c', v1 = .slice B 0 c' := by
      rcases hown.2 with ⟨h, _⟩ | ⟨g, cap, cur, h, _⟩
      · exact ⟨none, 0, h⟩
      · exact ⟨_, cap, h⟩
    obtain ⟨B, c', rfl⟩ := hv
    clear hown hgr hnz
    go_wp2_with fail
    go_ret
    exact ⟨B, c', rfl, HB.out⟩

set_option maxRecDepth 100000 in
set_option maxHeartbeats 1000000 in
theorem indexFn_nil (B : Option Addr) (c : Nat) (f : Value) (w : World) :
    Calls Tryd.prog 84 #[.slice B 0 c, f] w fun e w' => e = .returned (.int .i64 (-1)) ∧ w' = w := by
  go_enter Tryd.func84, Tryd.ntmps84
  go_wp2_with fail
  refine wp_loop_rounds 1 ?_
  rw [rounds_succ]
  go_wp2_with fail
  go_ret
  exact ⟨rfl, rfl⟩

set_option maxRecDepth 100000 in
set_option maxHeartbeats 1000000 in
theorem deleteFn_nil (B : Option Addr) (c : Nat) (f : Value) (w : World) :
    Calls Tryd.prog 75 #[.slice B 0 c, f] w fun e w' => e = .returned (.slice B 0 c) ∧ w' = w := by
  go_enter Tryd.func75, Tryd.ntmps75
  go_wp2_with fail
  refine (indexFn_nil B c f w).mono ?_
  rintro e w2 ⟨rfl, rfl⟩
  go_wp2_with fail
  go_ret
  exact ⟨rfl, rfl⟩

set_option maxRecDepth 100000 in
set_option maxHeartbeats 1000000 in
theorem cut_bad (x u v : Int) (A : Option Addr) (m cp : Nat) (a b c : Nat → Int) (w : World) (hl : Lnk w A m a b c) (hm : m ≤ 9223372036854775807) (k : Int) (h : FaultG x m a b c k) :
    Calls Tryd.prog 62 #[.int .i64 x, .slice A m cp, .int .i64 u, .int .i64 v] w fun e w' => e = .returned (.tuple #[.slice none 0 0, errNo k]) ∧ Below w.heap.size w w' := by
  have HL := Lib.hid (hl.keep (((Below.refl w.heap.size w).alloc (Nat.le_refl _) (.cells #[.int .i64 u] 3)).alloc (by simp) (.cells #[.int .i64 v] 3)))
  have HF := Lib.hid h
  clear hl h
  go_enter Tryd.func62, Tryd.ntmps62
  go_wp2_with fail
  refine (graphCheck_bad x A m cp a b c _ HL.out hm k HF.out).mono ?_
  rintro e w1 ⟨rfl, hb1⟩
  have HB : Hid (Below w.heap.size w w1) := keep (((Below.refl w.heap.size w).alloc (Nat.le_refl _) (.cells #[.int .i64 u] 3)).alloc (by simp) (.cells #[.int .i64 v] 3)) hb1
  clear hb1
  go_wp2_with fail
  go_ret2
  exact ⟨rfl, HB.out⟩

set_option maxRecDepth 100000 in
set_option maxHeartbeats 2000000 in
theorem cut_none (x u v : Int) (A : Option Addr) (m cp : Nat) (a b c : Nat → Int) (w : World) (hl : Lnk w A m a b c) (hm : m ≤ 9223372036854775807) (hg : GoodG x m a b c) (hn : ∀ j, j < m → ¬ Mt a b j u v) :
    Calls Tryd.prog 62 #[.int .i64 x, .slice A m cp, .int .i64 u, .int .i64 v] w fun e w' => e = .returned (.tuple #[.slice none 0 0, errNo 2]) ∧ Below w.heap.size w w' := by
  obtain ⟨n, rfl, -, hn8, hr⟩ := good_nat hg
  have hm64 := right_small hr hn8
  have HB0 : Hid (Below w.heap.size w ((w.alloc (.cells #[.int .i64 u] 3)).alloc (.cells #[.int .i64 v] 3))) := ((Below.refl w.heap.size w).alloc (Nat.le_refl _) (.cells #[.int .i64 u] 3)).alloc (by simp) (.cells #[.int .i64 v] 3)
  have HL := Lib.hid (hl.keep HB0.out)
  have HG := Lib.hid hg
  have HN := Lib.hid hn
  clear hl hg hn hr
  by_cases hm0 : m = 0
  · subst hm0
    go_enter Tryd.func62, Tryd.ntmps62
    go_wp2_with fail
    refine (graphCheck_good n A 0 cp a b c _ HL.out hm HG.out).mono ?_
    rintro e w1 ⟨rfl, hb1⟩
    have HB := Lib.hid (keep HB0.out hb1)
    clear hb1 HB0
    go_wp2_with fail
    refine (clone_links_nil A cp w1).mono ?_
    rintro e w2 ⟨B, c', rfl, hb2⟩
    have HB2 := Lib.hid (keep HB.out hb2)
    clear hb2 HB
    go_wp2_with fail
    refine (deleteFn_nil B c' _ w2).mono ?_
    rintro e w3 ⟨rfl, rfl⟩
    go_wp2_with fail
    go_ret2
    exact ⟨rfl, HB2.out⟩
  · go_enter Tryd.func62, Tryd.ntmps62
    go_wp2_with fail
    refine (graphCheck_good n A m cp a b c _ HL.out hm HG.out).mono ?_
    rintro e w1 ⟨rfl, hb1⟩
    have HL1 := Lib.hid (HL.out.keep hb1)
    have HU : Hid (w1.cell? ⟨w.heap.size, 0, none⟩ = some (.int .i64 u)) := (hb1.cell (by simp; omega)).trans (by simp)
    have HV : Hid (w1.cell? ⟨w.heap.size + 1, 0, none⟩ = some (.int .i64 v)) := (hb1.cell (by simp)).trans (by simp)
    have HB := Lib.hid (keep HB0.out hb1)
    clear hb1 HB0 HL
    go_wp2_with fail
    have hcall := clone_links A m cp a b c w1 HL1.out (by omega) (by omega)
    refine hcall.mono ?_
    clear hcall
    rintro e w2 ⟨g, cap, rfl, hgb, hcap, hrow, hb2⟩
    have HR := Lib.hid hrow
    have HU2 := Lib.hid ((hb2.cell (World.block_lt_of_cell? _ _ HU.out)).trans HU.out)
    have HV2 := Lib.hid ((hb2.cell (World.block_lt_of_cell? _ _ HV.out)).trans HV.out)
    have HB2 := Lib.hid (keep HB.out hb2)
    clear hrow hb2 HB HU HV hgb
    go_wp2_with fail
    have hcall := deleteFn_none g m cap a b c u v w.heap.size (w.heap.size + 1) w2 HR.out (by omega) HU2.out HV2.out HN.out
    refine hcall.mono ?_
    clear hcall
    rintro e w3 ⟨rfl, hb3⟩
    have HB3 := Lib.hid (keep HB2.out hb3)
    clear hb3 HB2
    go_wp2_with fail
    go_ret2
    exact ⟨rfl, HB3.out⟩

set_option maxRecDepth 100000 in
set_option maxHeartbeats 2000000 in
theorem cut_ok (x u v : Int) (A : Option Addr) (m cp j : Nat) (a b c : Nat → Int) (w : World) (hl : Lnk w A m a b c) (hm : m ≤ 9223372036854775807) (hg : GoodG x m a b c) (hj : j < m) (hmt : Mt a b j u v) :
    Calls Tryd.prog 62 #[.int .i64 x, .slice A m cp, .int .i64 u, .int .i64 v] w fun e w' => ∃ g cap, e = .returned (.tuple #[.slice (some ⟨g, 0, none⟩) (m - 1) cap, .nilIface]) ∧ w.heap.size ≤ g ∧ RowP w' g 31 ((m - 1) * 3) (linkC (dropF j a) (dropF j b) (dropF j c)) ∧ Below w.heap.size w w' := by
  obtain ⟨n, rfl, -, hn8, hr⟩ := good_nat hg
  have hm64 := right_small hr hn8
  have HB0 : Hid (Below w.heap.size w ((w.alloc (.cells #[.int .i64 u] 3)).alloc (.cells #[.int .i64 v] 3))) := ((Below.refl w.heap.size w).alloc (Nat.le_refl _) (.cells #[.int .i64 u] 3)).alloc (by simp) (.cells #[.int .i64 v] 3)
  have HL := Lib.hid (hl.keep HB0.out)
  have HG := Lib.hid hg
  have HN : Hid (∀ i, i < m → (Mt a b i u v ↔ i = j)) := fun i hi => by
    obtain ⟨p, hp⟩ : ∃ p : Nat, u = p := ⟨u.toNat, by
      obtain ⟨-, -, -, -, -, ea, eb⟩ := right_nat hr hj
      unfold Mt at hmt
      omega⟩
    obtain ⟨s, hs⟩ : ∃ s : Nat, v = s := ⟨v.toNat, by
      obtain ⟨-, -, -, -, -, ea, eb⟩ := right_nat hr hj
      unfold Mt at hmt
      omega⟩
    subst hp hs
    constructor
    · intro h
      exact Edge.idx hr hi hj ((Mt.edge hr hi).1 h) ((Mt.edge hr hj).1 hmt)
    · rintro rfl
      exact hmt
  have hm1 : m - 1 ≠ m := by omega
  have hd : ((m - 1 : Nat) == m) = false := beq_false_of_ne hm1
  have hd' : (((m - 1 : Nat) : Int) == (m : Int)) = false := beq_false_of_ne (by omega)
  clear hl hg hmt hr
  go_enter Tryd.func62, Tryd.ntmps62
  go_wp2_with fail
  refine (graphCheck_good n A m cp a b c _ HL.out hm HG.out).mono ?_
  rintro e w1 ⟨rfl, hb1⟩
  have HL1 := Lib.hid (HL.out.keep hb1)
  have HU : Hid (w1.cell? ⟨w.heap.size, 0, none⟩ = some (.int .i64 u)) := (hb1.cell (by simp; omega)).trans (by simp)
  have HV : Hid (w1.cell? ⟨w.heap.size + 1, 0, none⟩ = some (.int .i64 v)) := (hb1.cell (by simp)).trans (by simp)
  have HS : Hid (w.heap.size + 2 ≤ w1.heap.size) := by have := hb1.size; simp at this; exact this
  have HB := Lib.hid (keep HB0.out hb1)
  clear hb1 HB0 HL
  go_wp2_with fail
  have hcall := clone_links A m cp a b c w1 HL1.out (by omega) (by omega)
  refine hcall.mono ?_
  clear hcall
  rintro e w2 ⟨g, cap, rfl, hgb, hcap, hrow, hb2⟩
  have HR := Lib.hid hrow
  have HGB := Lib.hid hgb
  have HU2 := Lib.hid ((hb2.cell (World.block_lt_of_cell? _ _ HU.out)).trans HU.out)
  have HV2 := Lib.hid ((hb2.cell (World.block_lt_of_cell? _ _ HV.out)).trans HV.out)
  have HB2 := Lib.hid (keep HB.out hb2)
  clear hrow hb2 HB HU HV hgb
  go_wp2_with fail
  have hcall := deleteFn_one g m cap a b c u v w.heap.size (w.heap.size + 1) j w2 HR.out (by omega) hcap HU2.out HV2.out (by have := HGB.out; have := HS.out; omega) (by have := HGB.out; have := HS.out; omega) hj HN.out
  refine hcall.mono ?_
  clear hcall
  rintro e w3 ⟨rfl, hrow3, ht3⟩
  have HR3 := Lib.hid hrow3
  have HB3 : Hid (Below w.heap.size w w3) := Touch.below HB2.out ht3 HB2.out.size (fun i hi => by have := HGB.out; have := HS.out; omega)
  clear hrow3 ht3 HB2
  go_wp2_with fail
  go_ret2
  exact ⟨g, cap, rfl, by have := HGB.out; have := HS.out; omega, HR3.out, HB3.out⟩

end Go.Proofs.YtlbdbfmgkappaaaDoor

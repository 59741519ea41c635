/- The walks of graph.Check. -/
import Derived.Test.YtminfghiejgieaaDoorSame
import Derived.Maps.OwnSet
import Derived.Maps.OwnOps
import Derived.DeepKeys4
namespace Go.Proofs.YtminfghiejgieaaDoor
open Go.RowKit Go.Maps
set_option linter.unusedVariables false

/-- The slice at A reads as links, element by element. -/
def Lnk (w : World) (A : Option Addr) (n : Nat) (a b c : Nat → Int) : Prop :=
  ∀ i, i < n → ∃ ad, A = some ad ∧ ad.block < w.heap.size ∧ w.cell? (ad.add (i * 3)) = some (.int .i64 (a i)) ∧ w.cell? (ad.add (i * 3 + 1)) = some (.int .i64 (b i)) ∧ w.cell? (ad.add (i * 3 + 2)) = some (.int .i64 (c i))

theorem Lnk.keep {w w' : World} {A : Option Addr} {n : Nat} {a b c : Nat → Int} (h : Lnk w A n a b c) (hb : Below w.heap.size w w') : Lnk w' A n a b c := by
  intro j hj
  obtain ⟨ad, rfl, hlt, h0, h1, h2⟩ := h j hj
  exact ⟨ad, rfl, Nat.lt_of_lt_of_le hlt hb.size, (hb.cell (by rw [block_of_add]; exact hlt)).trans h0, (hb.cell (by rw [block_of_add]; exact hlt)).trans h1, (hb.cell (by rw [block_of_add]; exact hlt)).trans h2⟩

theorem add_lit1 (p : Addr) : p.add 1 = ⟨p.block, p.off + 1, none⟩ := rfl
theorem add_lit2 (p : Addr) : p.add 2 = ⟨p.block, p.off + 2, none⟩ := rfl

/-- A link's cells, as a load of it asks for them. -/
theorem Lnk.cells {w w' : World} {A : Option Addr} {n : Nat} {a b c : Nat → Int} (h : Lnk w A n a b c) (hb : Below w.heap.size w w') (i : Nat) (hi : i < n) :
    ∃ ad, A = some ad ∧ w'.cell? (ad.add (i * 3)) = some (.int .i64 (a i)) ∧ w'.cell? ⟨(ad.add (i * 3)).block, (ad.add (i * 3)).off + 1, none⟩ = some (.int .i64 (b i)) ∧ w'.cell? ⟨(ad.add (i * 3)).block, (ad.add (i * 3)).off + 2, none⟩ = some (.int .i64 (c i)) := by
  obtain ⟨ad, rfl, hlt, h0, h1, h2⟩ := h i hi
  refine ⟨ad, rfl, (hb.cell (by rw [block_of_add]; exact hlt)).trans h0, ?_, ?_⟩
  · rw [← add_lit1, add_of_add]
    exact (hb.cell (by rw [block_of_add]; exact hlt)).trans h1
  · rw [← add_lit2, add_of_add]
    exact (hb.cell (by rw [block_of_add]; exact hlt)).trans h2

theorem arr_row : (90 : TypeId) < Tryd.prog.types.size := of_decide_eq_true (by kernel_rfl)
theorem arr_wide : (match Tryd.prog.underlying 90 with | some (.array _ _) | some (.struct _) => true | _ => false) = true := by kernel_rfl
theorem arr_laid : laidOutB Tryd.prog = true := by kernel_rfl
theorem arr_at : Tryd.prog.keyTypeAt 2 90 = true := by kernel_rfl
set_option maxRecDepth 100000 in
theorem arr_law : Keyed Tryd.prog 90 := Keyed.of_law (deep_law_laid arr_laid (m := 2) (by omega) arr_row arr_at arr_wide)
theorem arr_cells : Tryd.prog.cellsOf 90 = 2 := by kernel_rfl
theorem arr_key : Tryd.prog.keyType 90 = true := by kernel_rfl
theorem int_cells : Tryd.prog.cellsOf 3 = 1 := by kernel_rfl

theorem zeroUnit (w : World) : (zeroValue 107).run Tryd.prog w = .ok (.agg #[]) w := by kernel_rfl

/-- What a key reads as. -/
def pairLit (a b : Int) : Lit := .string (keyBytes [.int .i64 a, .int .i64 b])

theorem keyOf_pair {a b : Int} (ha : (Lit.int .i64 a).wf = true) (hb : (Lit.int .i64 b).wf = true) : keyOf Tryd.prog 90 (.agg #[.int .i64 a, .int .i64 b]) = some (pairLit a b) := by
  have hu := Tryd.underlying90
  have hi := Tryd.underlying3
  obtain ⟨m, hm⟩ : ∃ m, Tryd.prog.types.size = m + 1 := ⟨_, rfl⟩
  unfold keyOf pairLit
  rw [hu]
  simp [arr_key, Value.formed, hu, arr_cells, hm, Program.keyLits, hi, Value.cells, int_cells, List.range_succ, ha, hb]

theorem pairLit_inj {a b a' b' : Int} (ha : (Lit.int .i64 a).wf = true) (hb : (Lit.int .i64 b).wf = true) (ha' : (Lit.int .i64 a').wf = true) (hb' : (Lit.int .i64 b').wf = true) (h : pairLit a b = pairLit a' b') : a = a' ∧ b = b' := by
  have h1 := keyOf_pair ha hb
  have h2 := keyOf_pair ha' hb'
  rw [← h] at h2
  have := arr_law.inj h1 h2
  simpa using this

set_option maxRecDepth 100000 in
set_option maxHeartbeats 1000000 in
theorem graphCheck_size (x : Int) (A : Option Addr) (m c : Nat) (w : World) (hx : x < 1 ∨ 8 < x) :
    Calls Tryd.prog 59 #[.int .i64 x, .slice A m c] w fun e w' => e = .returned (errNo 1) ∧ Below w.heap.size w w' := by
  rcases hx with hx | hx
  · go_enter Tryd.func59, Tryd.ntmps59
    go_wp2_with fail
    go_ret
    exact ⟨rfl, Below.refl _ _⟩
  · go_enter Tryd.func59, Tryd.ntmps59
    go_wp2_with fail
    go_ret
    exact ⟨rfl, Below.refl _ _⟩

theorem wf_of {x : Int} (h0 : -9223372036854775808 ≤ x) (h1 : x ≤ 9223372036854775807) : (Lit.int .i64 x).wf = true := by
  simp [Lit.wf, IntKind.min, IntKind.max, IntKind.signed, IntKind.bits]
  omega

/-- Both are nodes; the cost is one. -/
def LinkOk (n : Nat) (a b c : Int) : Prop := 0 ≤ a ∧ a < n ∧ 0 ≤ b ∧ b < n ∧ 1 ≤ c ∧ c ≤ 15

/-- Between the same nodes. -/
def SamePair (a b a' b' : Int) : Prop := min a b = min a' b' ∧ max a b = max a' b'

/-- The first r links are right. -/
def Right (n r : Nat) (a b c : Nat → Int) : Prop :=
  ∀ i, i < r → LinkOk n (a i) (b i) (c i) ∧ a i ≠ b i ∧ ∀ j, j < i → ¬ SamePair (a j) (b j) (a i) (b i)

/-- What is wrong with link i, all ahead of it being right. -/
def Wrong (n i : Nat) (a b c : Nat → Int) (v : Int) : Prop :=
  (¬ LinkOk n (a i) (b i) (c i) ∧ v = 1) ∨ (LinkOk n (a i) (b i) (c i) ∧ a i = b i ∧ v = 3) ∨ (LinkOk n (a i) (b i) (c i) ∧ a i ≠ b i ∧ (∃ j, j < i ∧ SamePair (a j) (b j) (a i) (b i)) ∧ v = 5)

/-- The map in the middle of Check. -/
def Seen (w : World) (bm r : Nat) (a b : Nat → Int) : Prop :=
  ∃ D : DataW Unit, w.ownsMap Tryd.prog 90 unitElem bm r D ∧ ∀ x y, (Lit.int .i64 x).wf = true → (Lit.int .i64 y).wf = true → (Maps.has D (pairLit x y) = true ↔ ∃ j, j < r ∧ min (a j) (b j) = x ∧ max (a j) (b j) = y)

attribute [local go_sem high] run_min_pair run_max_pair

set_option maxRecDepth 100000 in
set_option maxHeartbeats 1000000 in
theorem graphCheck_to (n : Nat) (x : Int) (hx : x = (n : Int)) (A : Option Addr) (m cp : Nat) (a b c : Nat → Int) (w : World) (hl : Lnk w A m a b c) (h1 : 1 ≤ n) (h8 : n ≤ 8) (hm : m ≤ 9223372036854775807) (lim : Nat) (hlm : lim ≤ m) (hr : Right n lim a b c) (v : Value)
    (hv : (lim = m ∧ v = .nilIface) ∨ (lim < m ∧ ∃ k, v = errNo k ∧ Wrong n lim a b c k)) :
    Calls Tryd.prog 59 #[.int .i64 x, .slice A m cp] w fun e w' => e = .returned v ∧ Below w.heap.size w w' := by
  subst hx
  have hmm := @run_makeMap Tryd.prog
  have h1' : (1 : Int) ≤ n := by omega
  have h8' : (n : Int) ≤ 8 := by omega
  have HL := Lib.hid hl
  have HR := Lib.hid hr
  have HV := Lib.hid hv
  clear hl hr hv
  go_enter Tryd.func59, Tryd.ntmps59
  go_wp2_with fail
  go_loopw [21] (fun i wr => ∃ r : Nat, r ≤ lim ∧ i = .int .i64 r ∧ Seen wr w.heap.size r a b ∧ Below w.heap.size w wr) (fun i _ => lim - (intOf i).toNat)
  case atStart => exact ⟨0, by omega, rfl, ⟨_, World.ownsMap_made _ _ _ _, fun x y _ _ => ⟨fun h => by simp [Maps.has] at h, fun ⟨j, hj, _⟩ => absurd hj (by omega)⟩⟩, (Below.refl _ _).alloc (Nat.le_refl _) _⟩
  case round =>
    obtain ⟨r, hrm, rfl, hS, hb⟩ := hrel
    by_cases hlt : r < lim
    · have hlt' : (r : Int) < m := by omega
      obtain ⟨ad, rfl, hc0, hc1, hc2⟩ := HL.out.cells hb r (by omega)
      obtain ⟨⟨ha0, ha1, hb0, hb1, hk0, hk1⟩, hne, hnew⟩ := HR.out r hlt
      have hd : decide (a r = b r) = false := decide_eq_false hne
      obtain ⟨D, hown, hD⟩ := hS
      have wf0 : (Lit.int .i64 (min (a r) (b r))).wf = true := wf_of (by omega) (by omega)
      have wf1 : (Lit.int .i64 (max (a r) (b r))).wf = true := wf_of (by omega) (by omega)
      have hno : Maps.has D (pairLit (min (a r) (b r)) (max (a r) (b r))) = false := by
        cases h : Maps.has D (pairLit (min (a r) (b r)) (max (a r) (b r)))
        · rfl
        · obtain ⟨j, hj, e⟩ := (hD _ _ wf0 wf1).1 h
          exact absurd e (hnew j hj)
      have HO := Lib.hid hown
      have HD := Lib.hid hD
      have HB := Lib.hid hb
      have HW0 := Lib.hid wf0
      have HW1 := Lib.hid wf1
      clear hown hD hb wf0 wf1 hnew
      go_wp2_with (first | (at_lookup; refine wpList_lookup_own_unit _ rfl _ _ 106 rfl 90 107 arr_law Tryd.underlying106 (zeroUnit _) w.heap.size r D rfl ((HO.out.alloc _).alloc _) _ _ rfl (keyOf_pair HW0.out HW1.out) ?_) | (at_mapUpdate; refine wpList_mapUpdate_own _ rfl _ _ _ 106 rfl 90 107 arr_law Tryd.underlying106 unitElem w.heap.size r D rfl (((HO.out.alloc _).alloc _).alloc _) (by unfold maxLen; omega) _ _ _ rfl rfl (keyOf_pair HW0.out HW1.out) _ [] unitElem_mk ?_; intro w1 hown1 hg1))
      have hs := HB.out.size
      have HS1 : Hid (Seen w1 w.heap.size (r + 1) a b) := ⟨_, hown1, fun x y hx hy => by
        by_cases he : min (a r) (b r) = x ∧ max (a r) (b r) = y
        · obtain ⟨rfl, rfl⟩ := he
          exact ⟨fun _ => ⟨r, by omega, rfl, rfl⟩, fun _ => Maps.has_put_same (HO.out.isMap) (arr_law.key (keyOf_pair HW0.out HW1.out)) _⟩
        · have hne : pairLit x y ≠ pairLit (min (a r) (b r)) (max (a r) (b r)) := fun e => he (by
            obtain ⟨e1, e2⟩ := pairLit_inj hx hy HW0.out HW1.out e
            exact ⟨e1.symm, e2.symm⟩)
          rw [Maps.has_put_other hne, HD.out x y hx hy]
          constructor
          · rintro ⟨j, hj, e⟩
            exact ⟨j, by omega, e⟩
          · rintro ⟨j, hj, e⟩
            by_cases ej : j = r
            · subst ej; exact absurd e he
            · exact ⟨j, by omega, e⟩⟩
      have HB1 : Hid (Below w.heap.size w w1) := (((HB.out.alloc hs _).alloc (by simp; omega) _).alloc (by simp; omega) _).grown hg1 (by simp; omega) (fun k hk => by cases hk; exact Nat.le_refl _)
      clear hown1 hg1 hs hno
      go_wp2_with fail
      go_roundw
      case rel => exact ⟨r + 1, by omega, by go_num, HS1.out, HB1.out⟩
      case measure => simp [intOf]; omega
    · have er : r = lim := by omega
      subst er
      rcases HV.out with ⟨e1, rfl⟩ | ⟨hlm', k, rfl, hw⟩
      · subst e1
        go_wp2_with fail
        go_ret
        exact ⟨rfl, hb⟩
      · have hlt' : (r : Int) < m := by omega
        obtain ⟨ad, rfl, hc0, hc1, hc2⟩ := HL.out.cells hb r hlm'
        have HB := Lib.hid hb
        rcases hw with ⟨hbad, rfl⟩ | ⟨⟨ha0, ha1, hb0, hb1, hk0, hk1⟩, he, rfl⟩ | ⟨⟨ha0, ha1, hb0, hb1, hk0, hk1⟩, hne, hold, rfl⟩
        · have hbelow : Hid (Below w.heap.size w (wr.alloc (.cells #[.int .i64 (a r), .int .i64 (b r), .int .i64 (c r)] 69))) := HB.out.alloc HB.out.size _
          clear hb hS
          by_cases h1 : 0 ≤ a r
          · by_cases h2 : a r < n
            · by_cases h3 : 0 ≤ b r
              · by_cases h4 : b r < n
                · by_cases h5 : 1 ≤ c r
                  · have h6 : 15 < c r := by
                      rcases Int.lt_or_le 15 (c r) with h | h
                      · exact h
                      · exact absurd ⟨h1, h2, h3, h4, h5, h⟩ hbad
                    clear hbad
                    go_wp2_with fail
                    go_ret
                    exact ⟨rfl, hbelow.out⟩
                  · clear hbad
                    have h5' : c r < 1 := by omega
                    go_wp2_with fail
                    go_ret
                    exact ⟨rfl, hbelow.out⟩
                · clear hbad
                  have h4' : (n : Int) ≤ b r := by omega
                  go_wp2_with fail
                  go_ret
                  exact ⟨rfl, hbelow.out⟩
              · clear hbad
                have h3' : b r < 0 := by omega
                go_wp2_with fail
                go_ret
                exact ⟨rfl, hbelow.out⟩
            · clear hbad
              have h2' : (n : Int) ≤ a r := by omega
              go_wp2_with fail
              go_ret
              exact ⟨rfl, hbelow.out⟩
          · clear hbad
            have h1'' : a r < 0 := by omega
            go_wp2_with fail
            go_ret
            exact ⟨rfl, hbelow.out⟩
        · have hbelow : Hid (Below w.heap.size w (wr.alloc (.cells #[.int .i64 (a r), .int .i64 (a r), .int .i64 (c r)] 69))) := HB.out.alloc HB.out.size _
          rw [← he] at hc1
          clear hb hS he hb0 hb1
          go_wp2_with fail
          go_ret
          exact ⟨rfl, hbelow.out⟩
        · have hd : decide (a r = b r) = false := decide_eq_false hne
          obtain ⟨D, hown, hD⟩ := hS
          have wf0 : (Lit.int .i64 (min (a r) (b r))).wf = true := wf_of (by omega) (by omega)
          have wf1 : (Lit.int .i64 (max (a r) (b r))).wf = true := wf_of (by omega) (by omega)
          have hyes : Maps.has D (pairLit (min (a r) (b r)) (max (a r) (b r))) = true := (hD _ _ wf0 wf1).2 hold
          have hs := hb.size
          have HB1 : Hid (Below w.heap.size w (((wr.alloc (.cells #[.int .i64 (a r), .int .i64 (b r), .int .i64 (c r)] 69)).alloc (.cells #[.int .i64 (min (a r) (b r)), .int .i64 (max (a r) (b r))] 90)).alloc (.cells #[] 107))) := ((HB.out.alloc hs _).alloc (by simp; omega) _).alloc (by simp; omega) _
          have HO := Lib.hid hown
          have HW0 := Lib.hid wf0
          have HW1 := Lib.hid wf1
          clear hown hD hb wf0 wf1 hold hs
          go_wp2_with (at_lookup; refine wpList_lookup_own_unit _ rfl _ _ 106 rfl 90 107 arr_law Tryd.underlying106 (zeroUnit _) w.heap.size r D rfl ((HO.out.alloc _).alloc _) _ _ rfl (keyOf_pair HW0.out HW1.out) ?_)
          go_ret
          exact ⟨rfl, HB1.out⟩

theorem graphCheck_ok (n : Nat) (x : Int) (hx : x = (n : Int)) (A : Option Addr) (m cp : Nat) (a b c : Nat → Int) (w : World) (hl : Lnk w A m a b c) (h1 : 1 ≤ n) (h8 : n ≤ 8) (hm : m ≤ 9223372036854775807) (hr : Right n m a b c) :
    Calls Tryd.prog 59 #[.int .i64 x, .slice A m cp] w fun e w' => e = .returned .nilIface ∧ Below w.heap.size w w' :=
  graphCheck_to n x hx A m cp a b c w hl h1 h8 hm m (Nat.le_refl _) hr _ (.inl ⟨rfl, rfl⟩)

/-- Links that pass. -/
def GoodG (n : Int) (m : Nat) (a b c : Nat → Int) : Prop := 1 ≤ n ∧ n ≤ 8 ∧ Right n.toNat m a b c

theorem Right.snoc {n r : Nat} {a b c : Nat → Int} (h : Right n r a b c) (h1 : LinkOk n (a r) (b r) (c r)) (h2 : a r ≠ b r) (h3 : ∀ j, j < r → ¬ SamePair (a j) (b j) (a r) (b r)) : Right n (r + 1) a b c := by
  intro i hi
  rcases Nat.lt_or_ge i r with h' | h'
  · exact h i h'
  · obtain rfl : i = r := by omega
    exact ⟨h1, h2, h3⟩

open Classical in
/-- Either all are right, or there is a first one that is not. -/
theorem right_or (n m : Nat) (a b c : Nat → Int) : Right n m a b c ∨ ∃ i k, i < m ∧ (k = 1 ∨ k = 3 ∨ k = 5) ∧ Right n i a b c ∧ Wrong n i a b c k := by
  induction m with
  | zero => exact .inl fun i hi => absurd hi (by omega)
  | succ m ih =>
    rcases ih with h | ⟨i, k, hi, hk, h⟩
    · by_cases h1 : LinkOk n (a m) (b m) (c m)
      · by_cases h2 : a m = b m
        · exact .inr ⟨m, 3, by omega, .inr (.inl rfl), h, .inr (.inl ⟨h1, h2, rfl⟩)⟩
        · by_cases h3 : ∃ j, j < m ∧ SamePair (a j) (b j) (a m) (b m)
          · exact .inr ⟨m, 5, by omega, .inr (.inr rfl), h, .inr (.inr ⟨h1, h2, h3, rfl⟩)⟩
          · exact .inl (h.snoc h1 h2 fun j hj hs => h3 ⟨j, hj, hs⟩)
      · exact .inr ⟨m, 1, by omega, .inl rfl, h, .inl ⟨h1, rfl⟩⟩
    · exact .inr ⟨i, k, by omega, hk, h⟩

theorem graphCheck_good (x : Int) (A : Option Addr) (m cp : Nat) (a b c : Nat → Int) (w : World) (hl : Lnk w A m a b c) (hm : m ≤ 9223372036854775807) (h : GoodG x m a b c) :
    Calls Tryd.prog 59 #[.int .i64 x, .slice A m cp] w fun e w' => e = .returned .nilIface ∧ Below w.heap.size w w' := by
  obtain ⟨h1, h8, hr⟩ := h
  exact graphCheck_ok x.toNat x (by omega) A m cp a b c w hl (by omega) (by omega) hm hr

/-- Links that do not pass, and what is wrong. -/
def FaultG (n : Int) (m : Nat) (a b c : Nat → Int) (k : Int) : Prop :=
  ((n < 1 ∨ 8 < n) ∧ k = 1) ∨ (1 ≤ n ∧ n ≤ 8 ∧ ∃ i, i < m ∧ Right n.toNat i a b c ∧ Wrong n.toNat i a b c k)

theorem graph_cases (n : Int) (m : Nat) (a b c : Nat → Int) : GoodG n m a b c ∨ ∃ k, (k = 1 ∨ k = 3 ∨ k = 5) ∧ FaultG n m a b c k := by
  by_cases h : n < 1 ∨ 8 < n
  · exact .inr ⟨1, .inl rfl, .inl ⟨h, rfl⟩⟩
  · rcases right_or n.toNat m a b c with hr | ⟨i, k, hi, hk, h1, h2⟩
    · exact .inl ⟨by omega, by omega, hr⟩
    · exact .inr ⟨k, hk, .inr ⟨by omega, by omega, i, hi, h1, h2⟩⟩

theorem graphCheck_bad (x : Int) (A : Option Addr) (m cp : Nat) (a b c : Nat → Int) (w : World) (hl : Lnk w A m a b c) (hm : m ≤ 9223372036854775807) (k : Int) (h : FaultG x m a b c k) :
    Calls Tryd.prog 59 #[.int .i64 x, .slice A m cp] w fun e w' => e = .returned (errNo k) ∧ Below w.heap.size w w' := by
  rcases h with ⟨h, rfl⟩ | ⟨h1, h8, i, hi, hr, hw⟩
  · exact graphCheck_size x A m cp w h
  · exact graphCheck_to x.toNat x (by omega) A m cp a b c w hl (by omega) (by omega) hm i (by omega) hr _ (.inr ⟨hi, k, rfl, hw⟩)

end Go.Proofs.YtminfghiejgieaaDoor

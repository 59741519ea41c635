/- The reference's order of hops: each at the place that as many as stand ahead of it leave. -/
import Derived.Test.YtfdldjlaedfllaaDoorPickPick
import Derived.Test.YtfdldjlaedfllaaDoorOwnL
namespace Go.Proofs.YtfdldjlaedfllaaDoor
open Go.RowKit Go.Sort
set_option linter.unusedVariables false

set_option maxRecDepth 100000 in
set_option maxHeartbeats 1000000 in
theorem ahead_walk (fl a b : Int) (w : World) (d : Bool) (hd : d = ltOf (ordC fl) a b) : Calls Tryd.prog 29 #[.int .i64 fl, .int .i64 a, .int .i64 b] w fun e w' => e = .returned (.bool d) ∧ w' = w := by
  rw [ord_lt] at hd
  obtain ⟨x, hx⟩ : ∃ x, mixI fl a = x := ⟨_, rfl⟩
  obtain ⟨y, hy⟩ : ∃ y, mixI fl b = y := ⟨_, rfl⟩
  have HX : Calls Tryd.prog 35 #[.int .i64 fl, .int .i64 a] w fun e w' => e = .returned (.int .i64 x) ∧ w' = w := by rw [← hx]; exact mix_walk fl a w
  have HY : Calls Tryd.prog 35 #[.int .i64 fl, .int .i64 b] w fun e w' => e = .returned (.int .i64 y) ∧ w' = w := by rw [← hy]; exact mix_walk fl b w
  rw [hx, hy] at hd
  have HX := Lib.hid HX
  have HY := Lib.hid HY
  clear hx hy
  by_cases h : y < x
  · obtain rfl : d = true := by rw [hd]; exact decide_eq_true (.inl h)
    clear hd
    go_enter Tryd.func29, Tryd.ntmps29
    go_wp2_with fail
    refine HX.out.mono ?_
    rintro e w1 ⟨rfl, h1⟩
    subst w1
    go_wp2_with fail
    refine HY.out.mono ?_
    rintro e w1 ⟨rfl, h1⟩
    subst w1
    go_wp2_with fail
    go_ret
    exact ⟨rfl, rfl⟩
  · have h0 : decide (y < x) = false := decide_eq_false h
    by_cases he : x = y
    · subst he
      by_cases hl : a < b
      · obtain rfl : d = true := by rw [hd]; exact decide_eq_true (.inr ⟨rfl, hl⟩)
        clear hd h
        go_enter Tryd.func29, Tryd.ntmps29
        go_wp2_with fail
        refine HX.out.mono ?_
        rintro e w1 ⟨rfl, h1⟩
        subst w1
        go_wp2_with fail
        refine HY.out.mono ?_
        rintro e w1 ⟨rfl, h1⟩
        subst w1
        go_wp2_with fail
        go_ret
        exact ⟨rfl, rfl⟩
      · have h1 : decide (a < b) = false := decide_eq_false hl
        obtain rfl : d = false := by rw [hd]; exact decide_eq_false (by omega)
        clear hd h hl
        go_enter Tryd.func29, Tryd.ntmps29
        go_wp2_with fail
        refine HX.out.mono ?_
        rintro e w1 ⟨rfl, h1⟩
        subst w1
        go_wp2_with fail
        refine HY.out.mono ?_
        rintro e w1 ⟨rfl, h1⟩
        subst w1
        go_wp2_with fail
        go_ret
        exact ⟨rfl, rfl⟩
    · have h1 : (x == y) = false := beq_false_of_ne he
      obtain rfl : d = false := by rw [hd]; exact decide_eq_false (by omega)
      clear hd h he
      go_enter Tryd.func29, Tryd.ntmps29
      go_wp2_with fail
      refine HX.out.mono ?_
      rintro e w1 ⟨rfl, h1⟩
      subst w1
      go_wp2_with fail
      refine HY.out.mono ?_
      rintro e w1 ⟨rfl, h1⟩
      subst w1
      go_wp2_with fail
      go_ret
      exact ⟨rfl, rfl⟩

/-- How many of the first j stand ahead of x. -/
def rankO (fl : Int) (f : Nat → Int) (x : Int) : Nat → Nat
  | 0 => 0
  | j + 1 => rankO fl f x j + if ltOf (ordC fl) (f j) x then 1 else 0

theorem rankO_le (fl : Int) (f : Nat → Int) (x : Int) : ∀ j, rankO fl f x j ≤ j
  | 0 => Nat.le_refl _
  | j + 1 => by
    have := rankO_le fl f x j
    unfold rankO
    split <;> omega
theorem rankO_count (fl : Int) (f : Nat → Int) (x : Int) : ∀ j, rankO fl f x j = ((List.range j).map f).countP fun y => ltOf (ordC fl) y x
  | 0 => rfl
  | j + 1 => by
    rw [List.range_succ, List.map_append, List.countP_append, ← rankO_count fl f x j]
    show rankO fl f x j + (if ltOf (ordC fl) (f j) x then 1 else 0) = _
    simp [List.countP_cons]

theorem count_sorted {fl : Int} : ∀ {l : List Int}, l.Nodup → (l.Pairwise fun x y => ltOf (ordC fl) y x = false) → ∀ k, (h : k < l.length) → l.countP (fun y => ltOf (ordC fl) y l[k]) = k
  | [], _, _, k, h => by simp at h
  | a :: l, hn, hs, 0, _ => by
    rw [List.getElem_cons_zero, List.countP_eq_zero]
    intro y hy
    rcases List.mem_cons.1 hy with rfl | hy
    · simp [(ord_swo fl).irrefl]
    · simp [(List.pairwise_cons.1 hs).1 y hy]
  | a :: l, hn, hs, k + 1, h => by
    have hn' := List.nodup_cons.1 hn
    have hs' := List.pairwise_cons.1 hs
    have hk : k < l.length := by simpa using h
    rw [List.getElem_cons_succ, List.countP_cons, count_sorted hn'.2 hs'.2 k hk]
    have h1 : ltOf (ordC fl) a l[k] = true := by
      cases e : ltOf (ordC fl) a l[k]
      · have := ord_total fl a l[k] e (hs'.1 _ (List.getElem_mem hk))
        exact absurd (this ▸ List.getElem_mem hk) hn'.1
      · rfl
    rw [if_pos h1]

/-- A hop's place. -/
theorem rank_place {fl : Int} {n : Nat} {f : Nat → Int} (hO : OnceV n f) {i : Nat} (hi : i < n) : rankO fl f (f i) n < n ∧ hopsF fl n f (rankO fl f (f i) n) = f i := by
  have hN : ((List.range n).map f).Nodup := by
    rw [← once_nodup]
    intro a ha b hb
    have ha' : a < n := by simpa using ha
    rw [atL_range ha', atL_range (by omega)]
    exact hO a ha' b hb
  have hp := hopsL_perm fl ((List.range n).map f)
  have hm : f i ∈ hopsL fl ((List.range n).map f) := hopsL_mem.2 (List.mem_map.2 ⟨i, List.mem_range.2 hi, rfl⟩)
  obtain ⟨k, hk, e⟩ := List.getElem_of_mem hm
  have hc := count_sorted (hopsL_nodup hN) (hopsL_sorted fl ((List.range n).map f)) k hk
  rw [e, (hp.countP_eq _), ← rankO_count] at hc
  rw [hc]
  have hl : k < n := by have := hk; rw [hopsL_length] at this; simpa using this
  refine ⟨hl, ?_⟩
  unfold hopsF atL
  rw [List.getD_eq_getElem?_getD, List.getElem?_eq_getElem hk]
  exact e

theorem rank_inj {fl : Int} {n : Nat} {f : Nat → Int} (hO : OnceV n f) {i j : Nat} (hi : i < n) (hj : j < n) (h : rankO fl f (f i) n = rankO fl f (f j) n) : i = j := by
  have h1 := (rank_place (fl := fl) hO hi).2
  rw [h, (rank_place hO hj).2] at h1
  rcases Nat.lt_trichotomy i j with h | h | h
  · exact absurd h1.symm (hO j hj i h)
  · exact h
  · exact absurd h1 (hO i hi j h)

/-- All places are filled. -/
theorem rank_all {fl : Int} {n : Nat} {f F : Nat → Int} (hO : OnceV n f) (h : ∀ i, i < n → F (rankO fl f (f i) n) = f i) : ∀ k, k < n → F k = hopsF fl n f k := by
  intro k hk
  have hN : ((List.range n).map f).Nodup := by
    rw [← once_nodup]
    intro a ha b hb
    have ha' : a < n := by simpa using ha
    rw [atL_range ha', atL_range (by omega)]
    exact hO a ha' b hb
  have hkl : k < (hopsL fl ((List.range n).map f)).length := by rw [hopsL_length]; simpa using hk
  have hm : (hopsL fl ((List.range n).map f))[k] ∈ (List.range n).map f := hopsL_mem.1 (List.getElem_mem hkl)
  obtain ⟨i, hi, e⟩ := List.mem_map.1 hm
  have hi' := List.mem_range.1 hi
  have hc := count_sorted (hopsL_nodup hN) (hopsL_sorted fl ((List.range n).map f)) k hkl
  rw [← e, ((hopsL_perm fl ((List.range n).map f)).countP_eq _), ← rankO_count] at hc
  have h1 := h i hi'
  have h2 := (rank_place (fl := fl) hO hi').2
  rw [hc] at h1 h2
  rw [h1, h2]

theorem infoInt' : (Tryd.prog.info? 3).map (fun i => (i.zero, i.size, i.bytes)) = some (some (.int .i64 0), 1, 8) := by kernel_rfl

set_option maxRecDepth 100000 in
set_option maxHeartbeats 4000000 in
theorem refOrder_walk (fl : Int) (A : Option Addr) (n c : Nat) (f : Nat → Int) (w : World) (hV : Vec w A n f) (hreach : n * 8 ≤ 140737488355328) (hO : OnceV n f) :
    Calls Tryd.prog 17 #[.int .i64 fl, .slice A n c] w fun e w' => ∃ g, e = .returned (.slice (some ⟨g, 0, none⟩) n n) ∧ Vec w' (some ⟨g, 0, none⟩) n (hopsF fl n f) ∧ Below w.heap.size w w' := by
  have hmk := run_make_row' (P := Tryd.prog) 22 3 (.int .i64 0) 8 Tryd.underlying22 infoInt' rfl .i64 .i64 n (by omega) (by omega)
  have HV := Lib.hid hV
  have HO := Lib.hid hO
  have hnm : n ≤ 9223372036854775807 := by omega
  have hn' : (n : Int) ≤ 9223372036854775807 := by omega
  have hn0 : (0 : Int) ≤ n := by omega
  clear hV hO hreach
  go_enter Tryd.func17, Tryd.ntmps17
  go_wp2_with fail
  go_loopw [6] (fun q wr => ∃ (i : Nat) (F : Nat → Int), i ≤ n ∧ q = .int .i64 i ∧ Hid (∀ r, r < i → F (rankO fl f (f r) n) = f r) ∧ RowP wr w.heap.size 3 n (fun k => .int .i64 (F k)) ∧ Below w.heap.size w wr) (fun q _ => n - (intOf q).toNat)
  case atStart => exact ⟨0, fun _ => 0, by omega, rfl, Lib.hid fun r hr => absurd hr (by omega), RowP.made w _ n _, (Below.refl _ _).alloc (Nat.le_refl _) _⟩
  case round =>
    obtain ⟨i, F, hi, rfl, HF, hrow, hb⟩ := hrel
    have HR := Lib.hid hrow
    have HB := Lib.hid hb
    clear hrow hb hmk
    by_cases hlt : i < n
    · have hlt' : (i : Int) < n := by omega
      obtain ⟨ad, rfl, hab, hci⟩ := HV.out i hlt
      replace hci := (HB.out.cell (p := ad.add i) (by rw [block_of_add]; exact hab)).trans hci
      clear hab
      obtain ⟨x, hx⟩ : ∃ x, f i = x := ⟨_, rfl⟩
      rw [hx] at hci
      have HX := Lib.hid hx
      clear hx
      obtain ⟨wo, hwo⟩ : ∃ wo, wo = wr := ⟨_, rfl⟩
      subst hwo
      go_wp2_with fail
      go_loopw [7, 8] (fun kv jv wi => ∃ (j q : Nat), j ≤ n ∧ jv = .int .i64 j ∧ kv = .int .i64 (rankO fl f x j) ∧ wi = wo.drewN q) (fun _ jv _ => n - (intOf jv).toNat)
      case atStart => exact ⟨0, 0, by omega, rfl, rfl, rfl⟩
      case round =>
        obtain ⟨j, q, hj, rfl, rfl, hwi⟩ := hrel
        subst hwi
        by_cases hlj : j < n
        · have hlj' : (j : Int) < n := by omega
          obtain ⟨ad2, e2, hab, hcj⟩ := HV.out j hlj
          cases e2
          replace hcj := (HB.out.cell (p := ad.add j) (by rw [block_of_add]; exact hab)).trans hcj
          clear hab
          obtain ⟨y, hy⟩ : ∃ y, f j = y := ⟨_, rfl⟩
          rw [hy] at hcj
          have hrk := rankO_le fl f x j
          have HS : Hid (rankO fl f x (j + 1) = rankO fl f x j + if ltOf (ordC fl) y x then 1 else 0) := Lib.hid (by rw [← hy]; rfl)
          clear hy
          obtain ⟨k, hk⟩ : ∃ k, rankO fl f x j = k := ⟨_, rfl⟩
          rw [hk] at hrk HS ⊢
          clear hk
          have hk' : (k : Int) ≤ j := by omega
          cases hd : ltOf (ordC fl) y x
          · have HD := Lib.hid hd
            clear hd
            go_wp2_with fail
            go_quiet ((go_at_call 29; first | exact Calls.quiet_of_same (ahead_walk fl y x _ false HD.out.symm) | exact quiet_adds ((ahead_walk fl y x _ false HD.out.symm).mono fun _ _ h => ⟨h.1, 0, h.2⟩)))
            go_wp2_with fail
            go_roundw
            case rel => exact ⟨j + 1, _, by omega, by go_num, by rw [HS.out, HD.out]; rfl, rfl⟩
            case measure => simp [intOf]; omega
          · have HD := Lib.hid hd
            clear hd
            go_wp2_with fail
            go_quiet ((go_at_call 29; first | exact Calls.quiet_of_same (ahead_walk fl y x _ true HD.out.symm) | exact quiet_adds ((ahead_walk fl y x _ true HD.out.symm).mono fun _ _ h => ⟨h.1, 0, h.2⟩)))
            go_wp2_with fail
            go_roundw
            case rel => exact ⟨j + 1, _, by omega, by go_num, by rw [HS.out, HD.out]; go_num, rfl⟩
            case measure => simp [intOf]; omega
        · have ej : n = j := by omega
          subst ej
          have hpl := rank_place (fl := fl) HO.out hlt
          rw [HX.out] at hpl
          have hin := fun r (hr : r < i) => (fun h => Nat.ne_of_lt hr (rank_inj (fl := fl) HO.out (by omega) hlt h) : rankO fl f (f r) n ≠ rankO fl f (f i) n)
          rw [HX.out] at hin
          obtain ⟨k, hk⟩ : ∃ k, rankO fl f x n = k := ⟨_, rfl⟩
          rw [hk] at hpl hin ⊢
          have HK := Lib.hid hk
          have hk2 := hpl.1
          have hk' : (k : Int) < n := by omega
          have HI := Lib.hid hin
          have hck := (HR.out.drewN q).cell hk2
          have hfk := (HR.out.drewN q).frozen k
          clear hk hpl hin
          go_wp2_with fail
          go_roundw
          case rel =>
            refine ⟨i + 1, upd F k x, by omega, by go_num, Lib.hid fun r hr => ?_, ((HR.out.drewN q).set k (.int .i64 x)).congr fun r hr => ?_, (below_drewN HB.out q).setCell (Nat.le_refl _) _⟩
            · by_cases e : r = i
              · subst e
                rw [HX.out, HK.out, upd_same]
              · rw [upd_other _ _ (HI.out r (by omega))]
                exact HF.out r (by omega)
            · unfold upd
              split <;> rfl
          case measure => simp [intOf]; omega
    · have ei : n = i := by omega
      subst ei
      go_wp2_with fail
      go_ret
      exact ⟨_, rfl, (HR.out.congr fun r hr => by rw [rank_all HO.out HF.out r hr]).vec, HB.out⟩

end Go.Proofs.YtfdldjlaedfllaaDoor

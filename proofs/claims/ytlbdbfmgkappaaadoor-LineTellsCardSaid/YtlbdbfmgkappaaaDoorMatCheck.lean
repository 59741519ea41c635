/- The walks of mat.Check: a table's form, its numbers. -/
import Derived.Test.YtlbdbfmgkappaaaDoorConcat
import Derived.Test.YtlbdbfmgkappaaaDoorDistC
namespace Go.Proofs.YtlbdbfmgkappaaaDoor
open Go.RowKit
set_option linter.unusedVariables false

/-- As many rows as numbers in each. -/
def Square (n : Nat) (L : Nat → Nat) : Prop := 1 ≤ n ∧ n ≤ 8 ∧ ∀ i, i < n → L i = n
/-- Each number is a distance. -/
def Ranged (n : Nat) (f : Nat → Nat → Int) : Prop := ∀ i j, i < n → j < n → 0 ≤ f i j ∧ f i j ≤ 16

theorem Square.mat {w : World} {A : Option Addr} {n : Nat} {L : Nat → Nat} {f : Nat → Nat → Int} (h : Square n L) (hm : Mat w A n L f) : Mat w A n (fun _ => n) f := by
  intro i hi
  have e := h.2.2 i hi
  have := hm i hi
  rw [e] at this
  exact this

theorem Ranged.flat {n : Nat} {f : Nat → Nat → Int} (h1 : 1 ≤ n) (h : Ranged n f) (q : Nat) (hq : q < n * n) : 0 ≤ f (q / n) (q % n) ∧ f (q / n) (q % n) ≤ 16 :=
  h _ _ ((Nat.div_lt_iff_lt_mul (by omega)).2 hq) (Nat.mod_lt _ (by omega))

theorem Ranged.of_flat {n : Nat} {f : Nat → Nat → Int} (h1 : 1 ≤ n) (h : ∀ q, q < n * n → 0 ≤ f (q / n) (q % n) ∧ f (q / n) (q % n) ≤ 16) : Ranged n f := by
  intro i j hi hj
  have hq : i * n + j < n * n := by
    have : (i + 1) * n ≤ n * n := Nat.mul_le_mul (by omega) (Nat.le_refl _)
    rw [Nat.succ_mul] at this
    omega
  have h' := h _ hq
  have e1 : (i * n + j) / n = i := by
    rw [Nat.mul_comm, Nat.mul_add_div (by omega), Nat.div_eq_of_lt hj, Nat.add_zero]
  have e2 : (i * n + j) % n = j := by rw [Nat.mul_comm, Nat.mul_add_mod, Nat.mod_eq_of_lt hj]
  rwa [e1, e2] at h'

set_option maxRecDepth 100000 in
set_option maxHeartbeats 1000000 in
theorem matCheck_size (A : Option Addr) (n c : Nat) (w : World) (hn : n < 1 ∨ 8 < n) :
    Calls Tryd.prog 47 #[.slice A n c] w fun e w' => e = .returned (errNo 3) ∧ Below w.heap.size w w' := by
  rcases hn with hn | hn
  · obtain rfl : n = 0 := by omega
    go_enter Tryd.func47, Tryd.ntmps47
    go_wp2_with fail
    go_ret
    exact ⟨rfl, Below.refl _ _⟩
  · have hn1 : (1 : Int) ≤ n := by omega
    have hn8 : (8 : Int) < n := by omega
    go_enter Tryd.func47, Tryd.ntmps47
    go_wp2_with fail
    go_ret
    exact ⟨rfl, Below.refl _ _⟩

set_option maxRecDepth 100000 in
set_option maxHeartbeats 1000000 in
theorem matCheck_form (A : Option Addr) (n c : Nat) (L : Nat → Nat) (f : Nat → Nat → Int) (w : World) (hm : Mat w A n L f) (hn : n ≤ 9223372036854775807) (h : ¬ Square n L) :
    Calls Tryd.prog 47 #[.slice A n c] w fun e w' => e = .returned (errNo 3) ∧ Below w.heap.size w w' := by
  by_cases hs : n < 1 ∨ 8 < n
  · exact matCheck_size A n c w hs
  · have h1 : 1 ≤ n := by omega
    have h8 : n ≤ 8 := by omega
    have h1' : (1 : Int) ≤ n := by omega
    have h8' : (n : Int) ≤ 8 := by omega
    have hex : Hid (¬ ∀ i, i < n → L i = n) := fun hall => h ⟨h1, h8, hall⟩
    have HM := Lib.hid hm
    clear hm h hs
    go_enter Tryd.func47, Tryd.ntmps47
    go_wp2_with fail
    go_loop [4, 19, 22, 23] (fun _ i _ _ => ∃ r : Nat, r ≤ n ∧ i = .int .i64 r ∧ Hid (∀ j, j < r → L j = n)) (fun _ i _ _ => n - (intOf i).toNat)
    case atStart => exact ⟨0, by omega, rfl, Lib.hid (fun j hj => absurd hj (by omega))⟩
    case round =>
      obtain ⟨r, hr, rfl, hd⟩ := hrel
      have hlt : r < n := by
        rcases Nat.lt_or_ge r n with hlt | hge
        · exact hlt
        · exact absurd (fun j hj => hd.out j (by omega)) hex.out
      obtain ⟨ad, Ai, ci, rfl, hadb, hc, hv⟩ := HM.out r hlt
      have hlt' : (r : Int) < n := by omega
      have HD := hd
      clear hv hadb hd
      by_cases he : L r = n
      · have HE := Lib.hid he
        rw [he] at hc
        clear he
        go_wp2_with fail
        go_round
        case rel => exact ⟨r + 1, by omega, by go_num, Lib.hid (fun j hj => by
          rcases Nat.lt_or_ge j r with h | h
          · exact HD.out j h
          · obtain rfl : j = r := by omega
            exact HE.out)⟩
        case measure => simp [intOf]; omega
      · have he' : decide ((L r : Int) = (n : Int)) = false := by
          apply decide_eq_false
          omega
        go_wp2_with fail
        go_ret
        exact ⟨rfl, Below.refl _ _⟩

theorem ownsRow_cell {w : World} {base : Nat} {t : TypeId} {v : Value} {n : Nat} {F : Nat → Value} (hn : 1 ≤ n) (h : w.ownsRow base t 1 v n ((List.range n).map F)) :
    ∃ g c, v = .slice (some ⟨g, 0, none⟩) n c ∧ base ≤ g ∧ g < w.heap.size ∧ ∀ q, q < n → w.cell? ⟨g, q, none⟩ = some (F q) := by
  rcases h.2 with ⟨h', e⟩ | ⟨g', cap', cur, h', hb, hg, hnc, _, hcs, htake⟩
  · omega
  · refine ⟨g', cap', h', hb, ?_, ?_⟩
    · rcases Nat.lt_or_ge g' w.heap.size with hlt | hge
      · exact hlt
      · rw [Array.getElem?_eq_none hge] at hg; cases hg
    · intro q hq
      have hr : RowP w g' t n F := ⟨cur, hg, by omega, fun i hi => by
        have e : (cur.toList.take (n * 1))[i]? = ((List.range n).map F)[i]? := by rw [htake]
        rw [List.getElem?_take, if_pos (by omega)] at e
        simpa [hi] using e⟩
      exact hr.cell hq

set_option maxRecDepth 100000 in
set_option maxHeartbeats 1000000 in
theorem matCheck_sq (A : Option Addr) (n c : Nat) (f : Nat → Nat → Int) (w : World) (hm : Mat w A n (fun _ => n) f) (h1 : 1 ≤ n) (h8 : n ≤ 8) (v : Value)
    (hv : (v = .nilIface ∧ Ranged n f) ∨ (v = errNo 1 ∧ ¬ Ranged n f)) :
    Calls Tryd.prog 47 #[.slice A n c] w fun e w' => e = .returned v ∧ Below w.heap.size w w' := by
  have h1' : (1 : Int) ≤ n := by omega
  have h8' : (n : Int) ≤ 8 := by omega
  have HV := Lib.hid hv
  have HM := Lib.hid hm
  clear hm hv
  go_enter Tryd.func47, Tryd.ntmps47
  go_wp2_with fail
  go_loop [4, 19, 22, 23] (fun _ i _ _ => ∃ r : Nat, r ≤ n ∧ i = .int .i64 r) (fun _ i _ _ => n - (intOf i).toNat)
  case atStart => exact ⟨0, by omega, rfl⟩
  case round =>
    obtain ⟨r, hr, rfl⟩ := hrel
    by_cases hlt : r < n
    · obtain ⟨ad, Ai, ci, rfl, hadb, hc, hv⟩ := HM.out r hlt
      have hlt' : (r : Int) < n := by omega
      clear hv hadb
      go_wp2_with fail
      go_round
      case rel => exact ⟨r + 1, by omega, by go_num⟩
      case measure => simp [intOf]; omega
    · have er : r = n := by omega
      subst er
      go_wp2_with fail
      have hcall := concat_square A r c f w HM.out h1 h8
      refine hcall.mono ?_
      clear hcall
      rintro e w1 ⟨v1, rfl, hown, hb⟩
      have hnn : 1 ≤ r * r := Nat.mul_le_mul h1 h1
      have hnn8 : r * r ≤ 64 := Nat.mul_le_mul h8 h8
      obtain ⟨g, c1, rfl, hgb, hgl, hcell⟩ := ownsRow_cell hnn hown
      have HC := Lib.hid hcell
      have HB := Lib.hid hb
      have HF : Hid (∀ (p : Nat), p = r * r → (Ranged r f ↔ ∀ q, q < p → 0 ≤ f (q / r) (q % r) ∧ f (q / r) (q % r) ≤ 16)) := by
        rintro p rfl
        exact ⟨fun h => h.flat h1, Ranged.of_flat h1⟩
      clear hown hb hcell hgb
      obtain ⟨p, hp⟩ : ∃ p, p = r * r := ⟨_, rfl⟩
      have HF' := Lib.hid (HF.out p hp)
      rw [← hp] at hnn hnn8 HC ⊢
      clear HF hp
      generalize hF : (fun q => f (q / r) (q % r)) = F at *
      have hFq : ∀ q, f (q / r) (q % r) = F q := fun q => congrFun hF q
      simp only [hFq] at HC HF'
      clear hF hFq
      go_wp2_with fail
      go_loopw [6, 7, 33, 36, 37, 38, 39, 40] (fun _ _ i _ _ _ _ _ wr => ∃ q : Nat, q ≤ p ∧ i = .int .i64 q ∧ Hid (∀ j, j < q → 0 ≤ F j ∧ F j ≤ 16) ∧ wr = w1) (fun _ _ i _ _ _ _ _ _ => p - (intOf i).toNat)
      case atStart => exact ⟨0, by omega, rfl, Lib.hid (fun j hj => absurd hj (by omega)), rfl⟩
      case round =>
        obtain ⟨q, hq, rfl, hd, rfl⟩ := hrel
        have HD := hd
        clear hd
        by_cases hlt : q < p
        · have hlt' : (q : Int) < p := by omega
          have hcq := HC.out q hlt
          by_cases hin : 0 ≤ F q ∧ F q ≤ 16
          · have HI := Lib.hid hin
            clear hin
            go_wp2_with fail
            refine (distCheck_ok (F q) _ HI.out.1 HI.out.2).mono ?_
            rintro e w2 ⟨rfl, rfl⟩
            go_wp2_with fail
            go_roundw
            case rel => exact ⟨q + 1, by omega, by go_num, Lib.hid (fun j hj => by
              rcases Nat.lt_or_ge j q with h | h
              · exact HD.out j h
              · obtain rfl : j = q := by omega
                exact HI.out), trivial⟩
            case measure => simp [intOf]; omega
          · have hbad : Hid (F q < 0 ∨ 16 < F q) := by
              show F q < 0 ∨ 16 < F q
              omega
            have hv : v = errNo 1 := by
              rcases HV.out with ⟨_, hr'⟩ | ⟨hv, _⟩
              · exact absurd ((HF'.out.1 hr') q hlt) hin
              · exact hv
            subst hv
            clear hin
            go_wp2_with fail
            refine (distCheck_bad (F q) _ hbad.out).mono ?_
            rintro e w2 ⟨rfl, rfl⟩
            go_wp2_with fail
            go_ret
            exact ⟨rfl, HB.out⟩
        · have eq : q = p := by omega
          subst eq
          have hv : v = .nilIface := by
            rcases HV.out with ⟨hv, _⟩ | ⟨_, hr'⟩
            · exact hv
            · exact absurd (HF'.out.2 HD.out) hr'
          subst hv
          go_wp2_with fail
          go_ret
          exact ⟨rfl, HB.out⟩

theorem matCheck_ok (A : Option Addr) (n c : Nat) (f : Nat → Nat → Int) (w : World) (hm : Mat w A n (fun _ => n) f) (h1 : 1 ≤ n) (h8 : n ≤ 8) (hr : Ranged n f) :
    Calls Tryd.prog 47 #[.slice A n c] w fun e w' => e = .returned .nilIface ∧ Below w.heap.size w w' :=
  matCheck_sq A n c f w hm h1 h8 _ (.inl ⟨rfl, hr⟩)

theorem matCheck_range (A : Option Addr) (n c : Nat) (f : Nat → Nat → Int) (w : World) (hm : Mat w A n (fun _ => n) f) (h1 : 1 ≤ n) (h8 : n ≤ 8) (hr : ¬ Ranged n f) :
    Calls Tryd.prog 47 #[.slice A n c] w fun e w' => e = .returned (errNo 1) ∧ Below w.heap.size w w' :=
  matCheck_sq A n c f w hm h1 h8 _ (.inr ⟨rfl, hr⟩)

end Go.Proofs.YtlbdbfmgkappaaaDoor

/- The walk of the reference's Passed. -/
import Derived.Test.YtdilajieimbdnaaDoorDampRef
import Derived.Test.YtdilajieimbdnaaDoorDampEnd
namespace Go.Proofs.YtdilajieimbdnaaDoor
open Go.RowKit
set_option linter.unusedVariables false

set_option maxRecDepth 100000 in
set_option maxHeartbeats 1000000 in
theorem passed_walk (half now pen t : Int) (held : Bool) (w : World) (h1 : 1 ≤ half) (h2 : half ≤ 1000) (h3 : 0 ≤ now) (h6 : 0 ≤ pen) (h7 : pen ≤ 12000) (ht : now ≤ t) (h5 : t ≤ 1099511627776) :
    Calls Tryd.prog 12 #[.agg (dampCells half now pen held), .int .i64 t] w fun e w' => e = .returned (.agg (dampCells half t (penAt half now pen t) (heldAt half now pen t held))) ∧ Below w.heap.size w w' := by
  have hz : (half == 0) = false := beq_false_of_ne (by omega)
  have hq0 := quo_mono (half := half) h1 ht
  have hq1 := quo_top h1 h3 ht h5
  go_enter Tryd.func12, Tryd.ntmps12
  go_wp2_with fail
  go_quiet (fail)
  go_wp2_with fail
  obtain ⟨u, hu⟩ : ∃ u : World, u = w.drewN nq := ⟨_, rfl⟩
  have HU := Lib.hid hu
  clear hu
  have eh : w.heap.size = u.heap.size := by rw [HU.out]; rfl
  have ew : ∀ A B : Obj, ((w.alloc A).alloc B).drewN nq = (u.alloc A).alloc B := fun A B => by rw [HU.out]; rfl
  rw [eh, ew]
  clear eh ew
  go_loopw [6] (fun v wr => ∃ (k : Nat) (p : Int), (k : Int) ≤ t / half - now / half ∧ v = .int .i64 k ∧ Hid (pen / 2 ^ k = p) ∧ 0 ≤ p ∧ p ≤ 12000 ∧ wr = (u.alloc (.cells #[.int .i64 half, .int .i64 now, .int .i64 p, .bool held] 33)).alloc (.cells #[.int .i64 0, .int .i64 0, .int .i64 0, .bool false] 33)) (fun v _ => (t / half - now / half).toNat - (intOf v).toNat)
  case atStart => exact ⟨0, pen, by omega, rfl, Lib.hid (by simp), h6, h7, rfl⟩
  case round =>
    obtain ⟨k, p, hk, rfl, hp, hp0, hp1, rfl⟩ := hrel
    have HP := hp
    clear hp
    by_cases hkq : (k : Int) < t / half - now / half
    · by_cases hpz : 0 < p
      · have hpp : 0 ≤ p / 2 := by omega
        have hpm : p / 2 ≤ 12000 := by omega
        have HP2 : Hid (pen / 2 ^ (k + 1) = p / 2) := Lib.hid (by rw [← half_pow, HP.out])
        go_wp2_with fail
        go_roundw
        case rel => exact ⟨k + 1, p / 2, by omega, by go_num, HP2, hpp, hpm, rfl⟩
        case measure => simp [intOf]; omega
      · have hpz0 : p = 0 := by omega
        have HE := Lib.hid (HP.out.symm.trans (pass_end h6 h7 hk (.inr (by rw [HP.out]; exact hpz0))))
        clear hpz
        subst hpz0
        iterate 1
          go_wp2_with fail
          (try simp only [Exit.inBlock, Exit.then])
          refine bodyPost_ret (results_cell_row rfl _ _ (u.heap.size + 1) _ _ _ _ rfl (heap_alloc2_new _ _ _) Tryd.underlying33 rfl infoRefDamp) rfl ?_
          refine ⟨?_, ?_⟩
          · unfold heldAt
            rw [← HE.out]
            first
            | (exfalso; omega)
            | (have hd : decide (750 ≤ (0 : Int)) = false := decide_eq_false (by omega)
               rw [hd, Bool.and_false]
               try rfl)
            | (have hd : decide (750 ≤ (0 : Int)) = true := decide_eq_true (by omega)
               rw [hd, Bool.and_true]
               try rfl)
          · have hb := ((Below.refl u.heap.size u).alloc (Nat.le_refl _) (.cells #[.int .i64 half, .int .i64 t, .int .i64 0, .bool (held && decide (750 ≤ (0 : Int)))] 33))
            have HB0 : Below w.heap.size w u := by rw [HU.out]; exact below_drewN (Below.refl _ _) _
            have hs : u.heap.size = w.heap.size := by rw [HU.out]; rfl
            rw [← hs] at HB0 ⊢
            exact (HB0.alloc (Nat.le_refl _) _).alloc (by simp) _
    · have hke : (k : Int) = t / half - now / half := by omega
      have HE := Lib.hid (HP.out.symm.trans (pass_end h6 h7 hk (.inl hke)))
      clear hke
      by_cases h750 : p < 750
      all_goals
        go_wp2_with fail
        (try simp only [Exit.inBlock, Exit.then])
        refine bodyPost_ret (results_cell_row rfl _ _ (u.heap.size + 1) _ _ _ _ rfl (heap_alloc2_new _ _ _) Tryd.underlying33 rfl infoRefDamp) rfl ?_
        refine ⟨?_, ?_⟩
        · unfold heldAt
          rw [← HE.out]
          first
          | (exfalso; omega)
          | (have hd : decide (750 ≤ p) = false := decide_eq_false (by omega)
             rw [hd, Bool.and_false]
             try rfl)
          | (have hd : decide (750 ≤ p) = true := decide_eq_true (by omega)
             rw [hd, Bool.and_true]
             try rfl)
        · have hb := ((Below.refl u.heap.size u).alloc (Nat.le_refl _) (.cells #[.int .i64 half, .int .i64 t, .int .i64 p, .bool (held && decide (750 ≤ p))] 33))
          have HB0 : Below w.heap.size w u := by rw [HU.out]; exact below_drewN (Below.refl _ _) _
          have hs : u.heap.size = w.heap.size := by rw [HU.out]; rfl
          rw [← hs] at HB0 ⊢
          exact (HB0.alloc (Nat.le_refl _) _).alloc (by simp) _

end Go.Proofs.YtdilajieimbdnaaDoor

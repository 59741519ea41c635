/- The fact of ways: gone. -/
import Derived.Test.YtgcogffhnabdlaaFirst
namespace Go.Proofs.Ytgcogffhnabdlaa
open Go.RowKit
set_option linter.unusedVariables false

set_option maxRecDepth 100000 in
set_option maxHeartbeats 1000000 in
theorem gone_walk (w : World) :
    Calls Try.prog 4 #[] w fun e w' => e = .returned (.bool true) ∧ Below w.heap.size w w' := by
  have hr : Right 2 1 (fun _ => 0) (fun _ => 1) (fun _ => 3) := right_lit
  have hD := far_end (t := 1) hr (by omega)
  have hK := cost_m hr
  have h01 : endF 1 (fun _ => 0) (fun _ => 1) (fun _ => 3) 1 0 < 16 := by
    have h1 := hD.tri 0 1 (by omega) (by omega)
    rw [hD.zero] at h1
    have h2 : costF 1 (fun _ => 0) (fun _ => 1) (fun _ => 3) 0 1 = 3 := by decide
    omega
  obtain ⟨-, -, hn2, hne2, -⟩ := stp_at hK hD (i := 0) (by omega) (by omega) h01
  have HF : Hid (fstF 2 1 (costF 1 (fun _ => 0) (fun _ => 1) (fun _ => 3)) (endF 1 (fun _ => 0) (fun _ => 1) (fun _ => 3) 1) 0 1 = 1) := by
    show stpF 2 1 (costF 1 (fun _ => 0) (fun _ => 1) (fun _ => 3)) (endF 1 (fun _ => 0) (fun _ => 1) (fun _ => 3) 1) 0 = 1
    omega
  clear hD hK hn2 hne2 hr
  go_enter Try.func4, Try.ntmps4
  go_wp2_with fail
  have hcall := first_ok 2 0 1 2 0 1 rfl rfl rfl (some ⟨w.heap.size, 0, none⟩) 1 1 (fun _ => 0) (fun _ => 1) (fun _ => 3) _ (lnk_lit w) (by omega) good_lit (by omega) (by omega) h01
  refine hcall.mono ?_
  clear hcall
  rintro e w1 ⟨k, v, ⟨hk, hk2⟩, -, rfl, hown, hb⟩
  have ek : k = 1 := by
    rcases Nat.lt_trichotomy k 1 with h | h | h
    · have e0 : k = 0 := by omega
      subst e0
      exact absurd hk (by show (0 : Nat) ≠ 1; omega)
    · exact h
    · exact absurd HF.out (hk2 1 h)
  subst ek
  obtain ⟨Av, cv, rfl, hv⟩ := hown.vec
  have HV := Lib.hid hv
  have HB : Hid (Below w.heap.size w w1) := keepAlloc (Below.refl _ _) hb
  clear hown hb hv hk hk2 h01
  go_wp2_with fail
  have hcall := ints_walk Av (some ⟨w1.heap.size, 0, none⟩) 2 2 cv 2 _ (fun i => if i = 0 then 0 else 1) _ (HV.out.keep ((Below.refl _ _).alloc (Nat.le_refl _) (.cells #[.int .i64 0, .int .i64 1] 3)))
    (fun j hj => ⟨_, rfl, (Blk.new w1 3 #[.int .i64 0, .int .i64 1]).lt, by
      rw [Addr.add_lit, (Blk.new w1 3 #[.int .i64 0, .int .i64 1]).cell]
      have h : j = 0 ∨ j = 1 := by omega
      rcases h with rfl | rfl <;> rfl⟩) (by omega) (by omega) true ⟨fun _ => ⟨rfl, fun i hi => by
        have h : i = 0 ∨ i = 1 := by omega
        rcases h with rfl | rfl
        · rfl
        · show ((fstF 2 1 _ _ 0 1 : Nat) : Int) = 1
          rw [HF.out]; rfl⟩, fun _ => rfl⟩
  refine hcall.mono ?_
  clear hcall
  rintro e w2 ⟨rfl, k2, rfl⟩
  go_wp2_with fail
  go_ret
  exact ⟨rfl, below_drewN (HB.out.alloc HB.out.size _) _⟩

/-- Both are nodes, or it is refused. -/
theorem badW_aux (x z y : Int) (m : Nat) (a b c : Nat → Int) : (GoodG x m a b c ∧ (0 ≤ y ∧ y < x) ∧ (0 ≤ z ∧ z < x)) ∨ ∃ v, (v = 1 ∨ v = 3 ∨ v = 5) ∧ BadW x m a b c z y v := by
  rcases graph_cases x m a b c with hg | ⟨v, hv, hf⟩
  · by_cases h1 : (0 ≤ y ∧ y < x) ∧ (0 ≤ z ∧ z < x)
    · exact .inl ⟨hg, h1⟩
    · exact .inr ⟨1, .inl rfl, .inr ⟨hg, by omega, rfl⟩⟩
  · exact .inr ⟨v, hv, .inl hf⟩

end Go.Proofs.Ytgcogffhnabdlaa

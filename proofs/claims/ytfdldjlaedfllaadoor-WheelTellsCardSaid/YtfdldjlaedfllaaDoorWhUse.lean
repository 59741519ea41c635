/- The wheel in use: the facts that the laws begin with; its maps are small. -/
import Derived.Test.YtfdldjlaedfllaaDoorWhTick
import Derived.Test.YtfdldjlaedfllaaDoorWhLen
import Derived.Test.YtfdldjlaedfllaaDoorRefRep
import Derived.Test.YtfdldjlaedfllaaDoorInts
namespace Go.Proofs.YtfdldjlaedfllaaDoor
open Go.RowKit Go.Maps
set_option linter.unusedVariables false

theorem MapD.tight {w : World} {b N : Nat} {m : Nat → Int} (h : MapD w b N m) : MapD w b 64 m := by
  obtain ⟨D, hown, hD⟩ := h
  have hc := keys_count hown hD (List.Perm.refl _)
  have h64 := cntD_le m
  obtain ⟨es, cl, hb, hf, hs, rfl⟩ := hown
  refine ⟨_, ⟨es, cl, hb, hf, ?_, rfl⟩, hD⟩
  have e : (intKeys (DataW.map ((es.toList.map (Go.WideElems.rg Tryd.prog 3 (plainElem (H := Unit) Tryd.prog 3))).foldr DataW.insert []))).length = es.size := by
    show (List.map _ _).length = es.size
    rw [List.length_map, length_sorted, List.length_map, Array.length_toList]
  omega
theorem WhB.tight {w : World} {p bA N : Nat} {B : Nat → Option Nat} {now : Int} {due : Nat → Int} (h : WhB w p bA B N now due) : WhB w p bA B 64 now due :=
  { h with at_ := h.at_.tight, sl := fun s b hs hb => (h.sl s b hs hb).tight }
theorem Wh.tight {w : World} {F : Nat → Prop} {p N : Nat} {now : Int} {due : Nat → Int} (h : Wh w F p N now due) : Wh w F p 64 now due := by
  obtain ⟨bA, B, h, hF⟩ := h
  exact ⟨bA, B, h.tight, hF⟩
theorem Wh.drewN {w : World} {F : Nat → Prop} {p N : Nat} {now : Int} {due : Nat → Int} (h : Wh w F p N now due) (q : Nat) : Wh (w.drewN q) F p N now due := h.same fun _ _ => rfl

theorem Tm.start : Tm 0 (fun _ => 0) := ⟨by omega, by omega, fun i _ => .inl rfl⟩
theorem Tm.set {now : Int} {due : Nat → Int} (h : Tm now due) {y : Int} (h1 : now < y) (h2 : y ≤ 1099511627776) (i : Nat) : Tm now (setD due i y) := ⟨h.lo, h.hi, fun k hk => by
  unfold setD
  split
  · exact .inr ⟨h1, h2⟩
  · exact h.due k hk⟩
theorem Tm.clear {now : Int} {due : Nat → Int} (h : Tm now due) (i : Nat) : Tm now (setD due i 0) := ⟨h.lo, h.hi, fun k hk => by
  unfold setD
  split
  · exact .inl rfl
  · exact h.due k hk⟩
theorem Tm.tick {now : Int} {due : Nat → Int} (h : Tm now due) {y : Int} (h1 : now ≤ y) (h2 : y ≤ 1099511627776) : Tm y (afterD due y) := ⟨by have := h.lo; omega, h2, fun k hk => by
  have := h.due k hk
  unfold afterD isDue
  split
  · exact .inl rfl
  · rename_i hn
    simp only [decide_eq_true_eq] at hn
    have := h.lo
    omega⟩

theorem due_three : dueL (setD (fun _ => 0) 3 5) 5 = [3] := by
  refine (dueL_only (perm_of_mem (by simp) fun i => ?_) (List.pairwise_singleton _ _)).symm
  unfold setD
  constructor
  · intro h
    have e : i = 3 := by simpa using h
    subst e
    simp
  · rintro ⟨h1, h2, h3⟩
    by_cases e : i = 3
    · simp [e]
    · simp [e] at h2

set_option maxRecDepth 100000 in
set_option maxHeartbeats 1000000 in
theorem wheeled_walk (w : World) : Calls Tryd.prog 6 #[] w fun e w' => e = .returned (.bool true) ∧ Below w.heap.size w w' := by
  go_enter Tryd.func6, Tryd.ntmps6
  go_wp2_with fail
  refine (wnew_walk w).mono ?_
  rintro e w1 ⟨p, F, rfl, hW, hF, hb⟩
  have hcall := wset_ok w1 F p 0 0 (fun _ => 0) hW Tm.start (by omega) 3 (by omega) 5 (by omega) (by omega)
  have HC := Lib.hid hcall
  have HF := Lib.hid hF
  have HB := Lib.hid hb
  clear hcall hF hb hW
  go_wp2_with fail
  refine HC.out.mono ?_
  rintro e w2 ⟨rfl, F2, hW2, hF2, hf2⟩
  have hcall := wtick_ok w2 F2 p 1 0 _ hW2 (Tm.start.set (by omega) (by omega) 3) 5 (by omega) (by omega)
  rw [due_three] at hcall
  have HC2 := Lib.hid hcall
  have HF2 : Hid (∀ k, F2 k → w.heap.size ≤ k) := Lib.hid fun k hk => by
    rcases hF2 k hk with h | h
    · exact HF.out k h
    · have := HB.out.size; omega
  have HB2 : Hid (Below w.heap.size w w2) := Lib.hid (HB.out.trans (hf2.below HB.out.size HF.out))
  clear hcall hF2 hf2 hW2 HC
  go_wp2_with fail
  refine HC2.out.mono ?_
  rintro e w3 ⟨A, c, rfl, hv3, -, hf3⟩
  have HB3 : Hid (Below w.heap.size w w3) := Lib.hid (HB2.out.trans (hf3.below HB2.out.size HF2.out))
  obtain ⟨A', c', e', hV⟩ := hv3.vec
  cases e'
  have HV := Lib.hid (hV.keep ((Below.refl _ _).alloc (Nat.le_refl _) (.cells #[.int .i64 3] 3)))
  have HV5 : Hid (Vec (w3.alloc (.cells #[.int .i64 3] 3)) (some ⟨w3.heap.size, 0, none⟩) 1 (fun _ => 3)) := Lib.hid fun j hj => by
    obtain rfl : j = 0 := by omega
    exact ⟨_, rfl, (Blk.new w3 3 #[.int .i64 3]).lt, by rw [Addr.add_zero']; exact (Blk.new w3 3 #[.int .i64 3]).cell 0⟩
  clear hv3 hf3 hV HC2
  go_wp2_with fail
  refine (ints_walk A (some ⟨w3.heap.size, 0, none⟩) 1 1 c 1 _ _ _ HV.out HV5.out (by omega) (by omega) true ⟨fun _ => ⟨rfl, fun i hi => ?_⟩, fun _ => rfl⟩).mono ?_
  · obtain rfl : i = 0 := by omega
    rfl
  · rintro e w4 ⟨rfl, q, h4⟩
    subst w4
    go_wp2_with fail
    go_ret
    exact ⟨rfl, below_drewN (HB3.out.alloc HB3.out.size _) q⟩

end Go.Proofs.YtfdldjlaedfllaaDoor

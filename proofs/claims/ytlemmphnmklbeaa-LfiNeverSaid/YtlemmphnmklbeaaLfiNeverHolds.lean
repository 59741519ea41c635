/- The row of LfiNever: for every input the law answers true, and each argument reads as it did. No further condition. -/
import Derived.Test.YtlemmphnmklbeaaOpenLnk
import Derived.Test.YtlemmphnmklbeaaLfiNever
namespace Go.Proofs.Ytlemmphnmklbeaa
open Go.ChangeShapes Go.WideShapes Go.ChangeAt Go.RowKit
set_option linter.unusedVariables false

theorem lfiNever_params : ∀ t ∈ Try.f4.params.toList, Try.prog.readableRec t = true ∧ t < Try.prog.types.size := by
  have h : (Try.f4.params.toList.all fun t => Try.prog.readableRec t && decide (t < Try.prog.types.size)) = true := by kernel_rfl
  intro t ht
  have := List.all_eq_true.1 h t ht
  simpa using this

set_option maxRecDepth 100000 in
theorem lfiNever_lifted (os : Os) (started : os.Started) (H : Type) (enc : TypeId × Value → H) :
    ReturnsInHanded {} Try.checked os 4 .any (Rows.lfiNeverSpec.pre6 enc Try.prog Try.f4 Rows.lfiNeverRow.domain false) (Rows.lfiNeverSpec.post enc Try.prog Try.f4 false true false false) := by
  refine returnsInHanded_of_change_sized (C := Try.checked) ownKnobNone started (by kernel_rfl) Try.func4
    (ChangeSpec.witness6 (enc := enc) (C := Try.checked) false ⟨#[], #[.int .i64 0, .slice none 0 0, .int .i64 0, .slice none 0 0, .slice none 0 0, .slice none 0 0, .slice none 0 0, .slice none 0 0], []⟩ 8 (by kernel_rfl) (by kernel_rfl) (by kernel_rfl) (by kernel_rfl)) ?_
  intro W base args ds gs before hval0 hW hcnd hsz0 _
  have hval : ∀ (j : Nat) t v, Try.f4.params[j]? = some t → args[j]? = some v → Value.okWide Try.prog W .any base t v := hval0
  have hW' := hW
  obtain ⟨p, q, hA0, hV, rfl, hfz, hnd⟩ := hW
  obtain ⟨rfl, rfl⟩ := trodVars_none hV
  have hA : DataW.TrodAll enc Try.prog W 0 (fun _ => true) true Try.f4.params.toList args.toList ds p := hA0
  have hlt : ∀ x ∈ p ++ [], x.block < W.heap.size := fun x hx => hW'.lt x hx
  rw [Try.params4] at hA hval
  obtain ⟨v0, vs0, d0, ds0, p0, q0, hargs, rfl, rfl, h0, r0⟩ := trodAll_cons hA
  obtain ⟨v1, vs1, d1, ds1, p1, q1, rfl, rfl, rfl, h1, r1⟩ := trodAll_cons r0
  obtain ⟨v2, vs2, d2, ds2, p2, q2, rfl, rfl, rfl, h2, r2⟩ := trodAll_cons r1
  obtain ⟨v3, vs3, d3, ds3, p3, q3, rfl, rfl, rfl, h3, r3⟩ := trodAll_cons r2
  obtain ⟨v4, vs4, d4, ds4, p4, q4, rfl, rfl, rfl, h4, r4⟩ := trodAll_cons r3
  obtain ⟨v5, vs5, d5, ds5, p5, q5, rfl, rfl, rfl, h5, r5⟩ := trodAll_cons r4
  obtain ⟨v6, vs6, d6, ds6, p6, q6, rfl, rfl, rfl, h6, r6⟩ := trodAll_cons r5
  obtain ⟨v7, vs7, d7, ds7, p7, q7, rfl, rfl, rfl, h7, r7⟩ := trodAll_cons r6
  obtain ⟨rfl, rfl, rfl⟩ := trodAll_nil r7
  obtain rfl : args = #[v0, v1, v2, v3, v4, v5, v6, v7] := by cases args; simp_all
  obtain ⟨x0, rfl, rfl, rfl, wx0⟩ := open_int Try.underlying3 (hval 0 3 v0 rfl rfl) h0
  obtain ⟨A1, n1, c1, a1, b1, k1, rfl, hn1, hc1, hl1, hwf1⟩ := open_lnk Try.underlying22 link_fields Try.underlying3 link_cells link_int (hval 1 22 v1 rfl rfl) h1
  obtain ⟨x2, rfl, rfl, rfl, wx2⟩ := open_int Try.underlying3 (hval 2 3 v2 rfl rfl) h2
  obtain ⟨A3, n3, c3, f3, rfl, hnc3, hcm3, hv3, hnil3, hwf3, hdd3⟩ := open_vec Try.underlying23 Try.underlying3 cellsInt (hval 3 23 v3 rfl rfl) h3
  obtain ⟨A4, n4, c4, f4, rfl, hnc4, hcm4, hv4, hnil4, hwf4, hdd4⟩ := open_vec Try.underlying23 Try.underlying3 cellsInt (hval 4 23 v4 rfl rfl) h4
  obtain ⟨A5, n5, c5, f5, rfl, hnc5, hcm5, hv5, hnil5, hwf5, hdd5⟩ := open_vec Try.underlying23 Try.underlying3 cellsInt (hval 5 23 v5 rfl rfl) h5
  obtain ⟨A6, n6, c6, f6, rfl, hnc6, hcm6, hv6, hnil6, hwf6, hdd6⟩ := open_vec Try.underlying23 Try.underlying3 cellsInt (hval 6 23 v6 rfl rfl) h6
  obtain ⟨A7, n7, c7, f7, rfl, hnc7, hcm7, hv7, hnil7, hwf7, hdd7⟩ := open_vec Try.underlying23 Try.underlying3 cellsInt (hval 7 23 v7 rfl rfl) h7
  refine (lfiNever_walk x0 A1 n1 c1 a1 b1 k1 x2 A3 n3 c3 f3 A4 n4 c4 f4 A5 n5 c5 f5 A6 n6 c6 f6 A7 n7 c7 f7 W hl1 (Nat.le_trans hn1 hc1) hv3 (by unfold maxLen at hcm3; omega) hv4 (by unfold maxLen at hcm4; omega) hv5 (by unfold maxLen at hcm5; omega) hv6 (by unfold maxLen at hcm6; omega) hv7 (by unfold maxLen at hcm7; omega)).mono fun e W' ⟨he, hb⟩ => ?_
  subst he
  exact ⟨_, rfl, law_post laidOutAll lfiNever_params rfl Try.underlying4 rfl hW' rfl hb⟩

theorem lfiNever_holds : Rows.LfiNeverSaid :=
  OpenClaim.holds_of_wide 4 Try.f4 rfl rfl rfl rfl rfl rfl rfl ⟨rfl, rfl, rfl, rfl, rfl⟩ rfl rfl rfl rfl rfl (by kernel_rfl) Try.func4 (by kernel_rfl)
    (of_decide_eq_true (by kernel_rfl)) (by unfold Func.isWrapper; rw [if_neg (of_decide_eq_false (by kernel_rfl))]; exact ⟨rfl, rfl⟩)
    (fun os started H enc _ => lfiNever_lifted os started H enc)

end Go.Proofs.Ytlemmphnmklbeaa

/- The row of MatLaws: for every input the law answers true, and each argument reads as it did. No further condition. -/
import Derived.Test.YtjijpcjbigdgjaaOpenMat
import Derived.Test.YtjijpcjbigdgjaaMatLaws
namespace Go.Proofs.Ytjijpcjbigdgjaa
open Go.ChangeShapes Go.WideShapes Go.ChangeAt Go.RowKit
set_option linter.unusedVariables false

theorem matLaws_params : ∀ t ∈ Try.f9.params.toList, Try.prog.readableRec t = true ∧ t < Try.prog.types.size := by
  have h : (Try.f9.params.toList.all fun t => Try.prog.readableRec t && decide (t < Try.prog.types.size)) = true := by kernel_rfl
  intro t ht
  have := List.all_eq_true.1 h t ht
  simpa using this

set_option maxRecDepth 100000 in
theorem matLaws_lifted (os : Os) (started : os.Started) (H : Type) (enc : TypeId × Value → H) :
    ReturnsInHanded {} Try.checked os 9 .any (Rows.matLawsSpec.pre6 enc Try.prog Try.f9 Rows.matLawsRow.domain false) (Rows.matLawsSpec.post enc Try.prog Try.f9 false true false false) := by
  refine returnsInHanded_of_change_sized (C := Try.checked) ownKnobNone started (by kernel_rfl) Try.func9
    (ChangeSpec.witness6 (enc := enc) (C := Try.checked) false ⟨#[], #[.slice none 0 0, .slice none 0 0, .slice none 0 0], []⟩ 8 (by kernel_rfl) (by kernel_rfl) (by kernel_rfl) (by kernel_rfl)) ?_
  intro W base args ds gs before hval0 hW hcnd hsz0 _
  have hval : ∀ (j : Nat) t v, Try.f9.params[j]? = some t → args[j]? = some v → Value.okWide Try.prog W .any base t v := hval0
  have hW' := hW
  obtain ⟨p, q, hA0, hV, rfl, hfz, hnd⟩ := hW
  obtain ⟨rfl, rfl⟩ := trodVars_none hV
  have hA : DataW.TrodAll enc Try.prog W 0 (fun _ => true) true Try.f9.params.toList args.toList ds p := hA0
  have hlt : ∀ x ∈ p ++ [], x.block < W.heap.size := fun x hx => hW'.lt x hx
  rw [Try.params9] at hA hval
  obtain ⟨v0, vs0, d0, ds0, p0, q0, hargs, rfl, rfl, h0, r0⟩ := trodAll_cons hA
  obtain ⟨v1, vs1, d1, ds1, p1, q1, rfl, rfl, rfl, h1, r1⟩ := trodAll_cons r0
  obtain ⟨v2, vs2, d2, ds2, p2, q2, rfl, rfl, rfl, h2, r2⟩ := trodAll_cons r1
  obtain ⟨rfl, rfl, rfl⟩ := trodAll_nil r2
  obtain rfl : args = #[v0, v1, v2] := by cases args; simp_all
  obtain ⟨A0, n0, c0, L0, f0, rfl, hn0, hm0, hL0, hwf0⟩ := open_mat Try.underlying47 Try.underlying28 Try.underlying3 cellsRow cellsInt (hval 0 47 v0 rfl rfl) h0
  obtain ⟨A1, n1, c1, L1, f1, rfl, hn1, hm1, hL1, hwf1⟩ := open_mat Try.underlying47 Try.underlying28 Try.underlying3 cellsRow cellsInt (hval 1 47 v1 rfl rfl) h1
  obtain ⟨A2, n2, c2, L2, f2, rfl, hn2, hm2, hL2, hwf2⟩ := open_mat Try.underlying47 Try.underlying28 Try.underlying3 cellsRow cellsInt (hval 2 47 v2 rfl rfl) h2
  refine (matLaws_walk A0 n0 c0 L0 f0 A1 n1 c1 L1 f1 A2 n2 c2 L2 f2 W hm0 hn0 hL0 hm1 hn1 hL1 hm2 hn2 hL2).mono fun e W' ⟨he, hb⟩ => ?_
  subst he
  exact ⟨_, rfl, law_post laidOutAll matLaws_params rfl Try.underlying4 rfl hW' rfl hb⟩

theorem matLaws_holds : Rows.MatLawsSaid :=
  OpenClaim.holds_of_wide 9 Try.f9 rfl rfl rfl rfl rfl rfl rfl ⟨rfl, rfl, rfl, rfl, rfl⟩ rfl rfl rfl rfl rfl (by kernel_rfl) Try.func9 (by kernel_rfl)
    (of_decide_eq_true (by kernel_rfl)) (by unfold Func.isWrapper; rw [if_neg (of_decide_eq_false (by kernel_rfl))]; exact ⟨rfl, rfl⟩)
    (fun os started H enc _ => matLaws_lifted os started H enc)

end Go.Proofs.Ytjijpcjbigdgjaa

/- The row of WheelTells: for every input the law answers true, and each argument reads as it did. No further condition. -/
import Derived.Test.YtfdldjlaedfllaaDoorRowLaid
import Derived.Test.YtfdldjlaedfllaaDoorRow
import Derived.Test.YtfdldjlaedfllaaDoorWheelTells
import Derived.Test.YtfdldjlaedfllaaDoorCards
import Derived.Test.YtfdldjlaedfllaaDoorTie
namespace Go.Proofs.YtfdldjlaedfllaaDoor
open Go.ChangeShapes Go.WideShapes Go.ChangeAt Go.RowKit
set_option linter.unusedVariables false

theorem wheelTells_params : ∀ t ∈ Tryd.f3.params.toList, Tryd.prog.readableRec t = true ∧ t < Tryd.prog.types.size := by
  have h : (Tryd.f3.params.toList.all fun t => Tryd.prog.readableRec t && decide (t < Tryd.prog.types.size)) = true := by kernel_rfl
  intro t ht
  have := List.all_eq_true.1 h t ht
  simpa using this

set_option maxRecDepth 100000 in
theorem wheelTells_lifted (os : Os) (started : os.Started) (H : Type) (enc : TypeId × Value → H) :
    ReturnsInHanded {} Tryd.checked os 3 .any (fun w args => (Rows.wheelTellsSpec.pre enc Tryd.prog Tryd.f3 [] false w args ∧ laidMetH Tryd.prog laidE w) ∧ sizedMet enc Tryd.prog Tryd.f3 (OpenSpec.ofChange Rows.wheelTellsSpec) false w args) (Rows.wheelTellsSpec.post enc Tryd.prog Tryd.f3 false true false false) := by
  refine returnsInHanded_of_change_and (C := Tryd.checked) (X := fun w _ => laidMetH Tryd.prog laidE w) (fun _ _ _ hh h => h.of_heap hh) ownKnobNone started (by kernel_rfl) Tryd.func3
    (ChangeSpec.witness_at (enc := enc) (C := Tryd.checked) (os := os) (X := fun w _ => laidMetH Tryd.prog laidE w) false (laidWorld os) #[.slice none 0 0, .slice none 0 0, .slice none 0 0] 8 rfl (by kernel_rfl) (by kernel_rfl) (by kernel_rfl) (by kernel_rfl) (by kernel_rfl) (laidWorld_met os _)) ?_
  intro W base args ds gs before hval0 hW hcnd hsz0 hL _
  have hET := errT_of_laid hL
  have hval : ∀ (j : Nat) t v, Tryd.f3.params[j]? = some t → args[j]? = some v → Value.okWide Tryd.prog W .any base t v := hval0
  have hW' := hW
  obtain ⟨p, q, hA0, hV, rfl, hfz, hnd⟩ := hW
  obtain ⟨rfl, rfl⟩ := trodVars_none hV
  have hA : DataW.TrodAll enc Tryd.prog W 0 (fun _ => true) true Tryd.f3.params.toList args.toList ds p := hA0
  have hlt : ∀ x ∈ p ++ [], x.block < W.heap.size := fun x hx => hW'.lt x hx
  rw [Tryd.params3] at hA hval
  obtain ⟨v0, vs0, d0, ds0, p0, q0, hargs, rfl, rfl, h0, r0⟩ := trodAll_cons hA
  obtain ⟨v1, vs1, d1, ds1, p1, q1, rfl, rfl, rfl, h1, r1⟩ := trodAll_cons r0
  obtain ⟨v2, vs2, d2, ds2, p2, q2, rfl, rfl, rfl, h2, r2⟩ := trodAll_cons r1
  obtain ⟨rfl, rfl, rfl⟩ := trodAll_nil r2
  obtain rfl : args = #[v0, v1, v2] := by cases args; simp_all
  obtain ⟨A0, n0, c0, f0, rfl, hnc0, hcm0, hv0, hnil0, hwf0, hdd0⟩ := open_vec Tryd.underlying22 Tryd.underlying3 cellsInt (hval 0 22 v0 rfl rfl) h0
  obtain ⟨A1, n1, c1, f1, rfl, hnc1, hcm1, hv1, hnil1, hwf1, hdd1⟩ := open_vec Tryd.underlying22 Tryd.underlying3 cellsInt (hval 1 22 v1 rfl rfl) h1
  obtain ⟨A2, n2, c2, f2, rfl, hnc2, hcm2, hv2, hnil2, hwf2, hdd2⟩ := open_vec Tryd.underlying22 Tryd.underlying3 cellsInt (hval 2 22 v2 rfl rfl) h2
  refine (wheelTells_walk A0 n0 c0 f0 A1 n1 c1 f1 A2 n2 c2 f2 W hET hv0 (by unfold maxLen at hcm0; omega) hv1 (by unfold maxLen at hcm1; omega) hv2 (by unfold maxLen at hcm2; omega)).mono fun e W' ⟨he, hb⟩ => ?_
  subst he
  exact ⟨_, rfl, law_post laidOutAll wheelTells_params rfl Tryd.underlying4 rfl hW' rfl hb⟩

theorem wheelTells_said : Rows.WheelTellsSaid :=
  OpenClaim.holds_of_wide 3 Tryd.f3 rfl rfl rfl rfl rfl rfl rfl ⟨rfl, rfl, rfl, rfl, rfl⟩ rfl rfl rfl rfl rfl (by kernel_rfl) Tryd.func3 (by kernel_rfl)
    (of_decide_eq_true (by kernel_rfl)) (by unfold Func.isWrapper; rw [if_neg (of_decide_eq_false (by kernel_rfl))]; exact ⟨rfl, rfl⟩)
    (fun os started H enc _ => wheelTells_lifted os started H enc)

theorem wheelTells_holds : Rows.WheelTellsCardSaid :=
  Claim7.holds_tied_plain_at .later [] [.handle] true Rows.wheelTellsCard.stood.harness true
    wheelTells_said (fun _ h => by cases h) (by kernel_rfl) (fun _ h => by cases h) wheelTells_row_tie rfl ⟨rfl, rfl⟩ (by kernel_rfl) rfl
    (fun f fn hf hfn => by
      obtain rfl : f = 3 := Option.some.inj ((show Tryd.prog.funcNamed "waywarden/waywardenlaw2.WheelTells" = some 3 by kernel_rfl).symm.trans hf) |>.symm
      obtain rfl : fn = Tryd.f3 := (Option.some.inj (Tryd.func3.symm.trans hfn)).symm
      refine ⟨by kernel_rfl, fun j t ht => ?_⟩
      have h : (Tryd.f3.params.toList.all fun t => Tryd.prog.wantsStandIn t == false) = true := by kernel_rfl
      have := List.all_eq_true.1 h t (by
        rw [← Array.getElem?_toList] at ht
        exact List.mem_of_getElem? ht)
      have h2 : Tryd.prog.wantsStandIn t = false := by simpa using this
      exact h2)
    (by kernel_rfl)

end Go.Proofs.YtfdldjlaedfllaaDoor

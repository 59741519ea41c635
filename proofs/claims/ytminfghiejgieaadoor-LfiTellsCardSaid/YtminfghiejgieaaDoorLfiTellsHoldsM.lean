/- The row of LfiTells: for every input the law answers true, and each argument reads as it did. No further condition. -/
import Derived.Test.YtminfghiejgieaaDoorRowLaid
import Derived.Test.YtminfghiejgieaaDoorOpenLnk
import Derived.Test.YtminfghiejgieaaDoorLfiTellsM
import Derived.Test.YtminfghiejgieaaDoorCards
import Derived.Test.YtminfghiejgieaaDoorTie
namespace Go.Proofs.YtminfghiejgieaaDoor
open Go.ChangeShapes Go.WideShapes Go.ChangeAt Go.RowKit
set_option linter.unusedVariables false

theorem lfiTells_params : ∀ t ∈ Tryd.f4.params.toList, Tryd.prog.readableRec t = true ∧ t < Tryd.prog.types.size := by
  have h : (Tryd.f4.params.toList.all fun t => Tryd.prog.readableRec t && decide (t < Tryd.prog.types.size)) = true := by kernel_rfl
  intro t ht
  have := List.all_eq_true.1 h t ht
  simpa using this

set_option maxRecDepth 100000 in
theorem lfiTells_lifted (os : Os) (started : os.Started) (H : Type) (enc : TypeId × Value → H) :
    ReturnsInHanded {} Tryd.checked os 4 .any (fun w args => (Rows.lfiTellsSpec.pre enc Tryd.prog Tryd.f4 [] false w args ∧ laidMetH Tryd.prog laidE w) ∧ sizedMet enc Tryd.prog Tryd.f4 (OpenSpec.ofChange Rows.lfiTellsSpec) false w args) (Rows.lfiTellsSpec.post enc Tryd.prog Tryd.f4 false true false false) := by
  refine returnsInHanded_of_change_and (C := Tryd.checked) (X := fun w _ => laidMetH Tryd.prog laidE w) (fun _ _ _ hh h => h.of_heap hh) ownKnobNone started (by kernel_rfl) Tryd.func4
    (ChangeSpec.witness_at (enc := enc) (C := Tryd.checked) (os := os) (X := fun w _ => laidMetH Tryd.prog laidE w) false (laidWorld os) #[.int .i64 0, .slice none 0 0, .int .i64 0, .slice none 0 0, .slice none 0 0, .slice none 0 0, .slice none 0 0] 8 rfl (by kernel_rfl) (by kernel_rfl) (by kernel_rfl) (by kernel_rfl) (by kernel_rfl) (laidWorld_met os _)) ?_
  intro W base args ds gs before hval0 hW hcnd hsz0 hL _
  have hET := errT_of_laid hL
  have hval : ∀ (j : Nat) t v, Tryd.f4.params[j]? = some t → args[j]? = some v → Value.okWide Tryd.prog W .any base t v := hval0
  have hW' := hW
  obtain ⟨p, q, hA0, hV, rfl, hfz, hnd⟩ := hW
  obtain ⟨rfl, rfl⟩ := trodVars_none hV
  have hA : DataW.TrodAll enc Tryd.prog W 0 (fun _ => true) true Tryd.f4.params.toList args.toList ds p := hA0
  have hlt : ∀ x ∈ p ++ [], x.block < W.heap.size := fun x hx => hW'.lt x hx
  rw [Tryd.params4] at hA hval
  obtain ⟨v0, vs0, d0, ds0, p0, q0, hargs, rfl, rfl, h0, r0⟩ := trodAll_cons hA
  obtain ⟨v1, vs1, d1, ds1, p1, q1, rfl, rfl, rfl, h1, r1⟩ := trodAll_cons r0
  obtain ⟨v2, vs2, d2, ds2, p2, q2, rfl, rfl, rfl, h2, r2⟩ := trodAll_cons r1
  obtain ⟨v3, vs3, d3, ds3, p3, q3, rfl, rfl, rfl, h3, r3⟩ := trodAll_cons r2
  obtain ⟨v4, vs4, d4, ds4, p4, q4, rfl, rfl, rfl, h4, r4⟩ := trodAll_cons r3
  obtain ⟨v5, vs5, d5, ds5, p5, q5, rfl, rfl, rfl, h5, r5⟩ := trodAll_cons r4
  obtain ⟨v6, vs6, d6, ds6, p6, q6, rfl, rfl, rfl, h6, r6⟩ := trodAll_cons r5
  obtain ⟨rfl, rfl, rfl⟩ := trodAll_nil r6
  obtain rfl : args = #[v0, v1, v2, v3, v4, v5, v6] := by cases args; simp_all
  obtain ⟨x0, rfl, rfl, rfl, wx0⟩ := open_int Tryd.underlying3 (hval 0 3 v0 rfl rfl) h0
  obtain ⟨A1, n1, c1, a1, b1, k1, rfl, hn1, hc1, hl1, hwf1⟩ := open_lnk Tryd.underlying22 link_fields Tryd.underlying3 link_cells link_int (hval 1 22 v1 rfl rfl) h1
  obtain ⟨x2, rfl, rfl, rfl, wx2⟩ := open_int Tryd.underlying3 (hval 2 3 v2 rfl rfl) h2
  obtain ⟨A3, n3, c3, f3, rfl, hnc3, hcm3, hv3, hnil3, hwf3, hdd3⟩ := open_vec Tryd.underlying24 Tryd.underlying3 cellsInt (hval 3 24 v3 rfl rfl) h3
  obtain ⟨A4, n4, c4, f4, rfl, hnc4, hcm4, hv4, hnil4, hwf4, hdd4⟩ := open_vec Tryd.underlying24 Tryd.underlying3 cellsInt (hval 4 24 v4 rfl rfl) h4
  obtain ⟨A5, n5, c5, f5, rfl, hnc5, hcm5, hv5, hnil5, hwf5, hdd5⟩ := open_vec Tryd.underlying24 Tryd.underlying3 cellsInt (hval 5 24 v5 rfl rfl) h5
  obtain ⟨A6, n6, c6, f6, rfl, hnc6, hcm6, hv6, hnil6, hwf6, hdd6⟩ := open_vec Tryd.underlying24 Tryd.underlying3 cellsInt (hval 6 24 v6 rfl rfl) h6
  refine (lfiTells_walk x0 A1 n1 c1 a1 b1 k1 x2 A3 n3 c3 f3 A4 n4 c4 f4 A5 n5 c5 f5 A6 n6 c6 f6 W hET hl1 (Nat.le_trans hn1 hc1) hv3 (by unfold maxLen at hcm3; omega) hv4 (by unfold maxLen at hcm4; omega) hv5 (by unfold maxLen at hcm5; omega) hv6 (by unfold maxLen at hcm6; omega)).mono fun e W' ⟨he, hb⟩ => ?_
  subst he
  exact ⟨_, rfl, law_post laidOutAll lfiTells_params rfl Tryd.underlying4 rfl hW' rfl hb⟩

theorem lfiTells_said : Rows.LfiTellsSaid :=
  OpenClaim.holds_of_wide 4 Tryd.f4 rfl rfl rfl rfl rfl rfl rfl ⟨rfl, rfl, rfl, rfl, rfl⟩ rfl rfl rfl rfl rfl (by kernel_rfl) Tryd.func4 (by kernel_rfl)
    (of_decide_eq_true (by kernel_rfl)) (by unfold Func.isWrapper; rw [if_neg (of_decide_eq_false (by kernel_rfl))]; exact ⟨rfl, rfl⟩)
    (fun os started H enc _ => lfiTells_lifted os started H enc)

theorem lfiTells_holds : Rows.LfiTellsCardSaid :=
  Claim7.holds_tied_plain_at .later [] [.handle] true Rows.lfiTellsCard.stood.harness true
    lfiTells_said (fun _ h => by cases h) (by kernel_rfl) (fun _ h => by cases h) lfiTells_row_tie rfl ⟨rfl, rfl⟩ (by kernel_rfl) rfl
    (fun f fn hf hfn => by
      obtain rfl : f = 4 := Option.some.inj ((show Tryd.prog.funcNamed "waywarden/waywardenlaw4.LfiTells" = some 4 by kernel_rfl).symm.trans hf) |>.symm
      obtain rfl : fn = Tryd.f4 := (Option.some.inj (Tryd.func4.symm.trans hfn)).symm
      refine ⟨by kernel_rfl, fun j t ht => ?_⟩
      have h : (Tryd.f4.params.toList.all fun t => Tryd.prog.wantsStandIn t == false) = true := by kernel_rfl
      have := List.all_eq_true.1 h t (by
        rw [← Array.getElem?_toList] at ht
        exact List.mem_of_getElem? ht)
      have h2 : Tryd.prog.wantsStandIn t = false := by simpa using this
      exact h2)
    (by kernel_rfl)

end Go.Proofs.YtminfghiejgieaaDoor

/- TraceArrivesHoldsM: in one text: RowLaid, RowLaidN, RowLaidB, TraceArrivesHolds. -/
import Derived.Test.YtbepfmcaolmhgaaDoorRow
import Derived.Test.YtbepfmcaolmhgaaDoorErr
import Derived.ChangeVars
import Derived.JoinedOf
import Derived.LaidLaws
import Derived.LaidHandle
import Derived.Stop.Joined
import Derived.Test.YtbepfmcaolmhgaaDoorLineMem
import Derived.Lib.LaidU8
import Derived.Test.YtbepfmcaolmhgaaDoorOpenLnk
import Derived.Test.YtbepfmcaolmhgaaDoorTraceArrivesM
import Derived.Test.YtbepfmcaolmhgaaDoorCards
import Derived.Test.YtbepfmcaolmhgaaDoorTie
/- A card's row: package errors' own variable is laid; a world that meets that. Turned from the kit's worked text ToyasProofs. -/
namespace Go.Proofs.YtbepfmcaolmhgaaDoor
open Go.ChangeShapes Go.WideShapes Go.RowKit

theorem asEt : Tryd.prog.globalNamed "errors.errorType" = some 1 := by kernel_rfl
theorem asRt : (Tryd.prog.cutTypes.find? (·.1 == "internal/reflectlite.rtype")).map (·.2) = some 133 := by kernel_rfl
theorem asOneRow : ((List.range 174).filter fun t => Tryd.prog.rowNamed t [101, 114, 114, 111, 114]) = [27] := by kernel_rfl
theorem asSize : Tryd.prog.types.size = 174 := by kernel_rfl

/-- What the rows list. -/
def laidE : List (String × DataW Unit) := [("errors.errorType", Rows.laid_errors_errorType)]

theorem errT_of_laid {W : World} (h : laidMetH Tryd.prog laidE W) : ErrT W := by
  have h' : laidMet Tryd.prog [] W ∧ handlesMet Tryd.prog laidE W := h
  obtain ⟨name, u, ty, e1, e2, e3, e4, e5⟩ := h'.2 _ (List.mem_singleton.2 rfl)
  have en : name = [101, 114, 114, 111, 114] := (Option.some.inj e1).symm
  subst en
  obtain rfl := Option.some.inj (asRt.symm.trans e2)
  have hm : ty ∈ (List.range 174).filter fun t => Tryd.prog.rowNamed t [101, 114, 114, 111, 114] := List.mem_filter.2 ⟨List.mem_range.2 (by rw [← asSize]; exact e3), e4⟩
  rw [asOneRow] at hm
  obtain rfl := List.mem_singleton.1 hm
  have hh : typeHandle Tryd.prog 27 = .pointer (some ⟨2, 27, none⟩) := by kernel_rfl
  rw [hh] at e5
  unfold ErrT
  simpa using World.var?_cell asEt e5 0

/-- A world that meets the condition: the settled one, the variable's cell laid. -/
noncomputable def laidWorld (os : Os) : World :=
  let w0 := World.holding Tryd.prog os ⟨#[], #[], []⟩
  { w0 with heap := w0.heap.modify 1 fun
      | .cells _ t frozen => .cells #[.iface 133 (.agg #[.pointer (some ⟨2, 27, none⟩)])] t frozen
      | o => o }
theorem laidWorld_met (os : Os) (args : Array Value) : laidMetH Tryd.prog laidE ((laidWorld os).forCall (fun _ _ => 0) ⟨#[], args, []⟩).memory :=
  laidMetH_of_parts (laidMet_nil _ _) (by kernel_rfl)

end Go.Proofs.YtbepfmcaolmhgaaDoor

/- A card's row that lists line's variable nobody: what it holds; a world that meets that. -/
namespace Go.Proofs.YtbepfmcaolmhgaaDoor
open Go.ChangeShapes Go.WideShapes Go.RowKit

theorem nobG : Tryd.prog.globalNamed "waywarden/line.nobody" = some 0 := by kernel_rfl
theorem nobT : (Tryd.prog.globals[(0 : Nat)]?).map (·.type) = some 69 := by kernel_rfl
theorem thC : Tryd.prog.cellsOf 69 = 2 := by kernel_rfl
theorem thF : ∃ f0 f1 : Field, Tryd.prog.underlying 69 = some (.struct #[f0, f1]) ∧ f0.type = 3 ∧ f0.offset = 0 ∧ f1.type = 3 ∧ f1.offset = 1 := ⟨_, _, Tryd.underlying69, rfl, rfl, rfl, rfl⟩
theorem intC : Tryd.prog.cellsOf 3 = 1 := by kernel_rfl

/-- What the rows list. -/
def laidN : List (String × DataW Unit) := [("waywarden/line.nobody", Rows.laid_waywarden_line_nobody)]

theorem nobT_of_reads {W : World} (h : Lib.VarReads Tryd.prog W "waywarden/line.nobody" Rows.laid_waywarden_line_nobody) : NobT W := by
  obtain ⟨g, t, cs, fuel, p, e1, e2, e3, e4⟩ := h
  obtain rfl := Option.some.inj (nobG.symm.trans e1)
  obtain rfl := Option.some.inj (nobT.symm.trans e2)
  obtain ⟨f0, f1, hu, h0, h1, h2, h3⟩ := thF
  have hcs := Lib.ints_of_struct (k := .i64) (zs := [16, -1]) hu (fun i f hf => by
    have hi : i = 0 ∨ i = 1 := by
      have := (Array.getElem?_eq_some_iff.1 hf).1
      simp at this
      omega
    rcases hi with rfl | rfl
    · have e : f0 = f := by simpa using hf
      subst e
      exact ⟨by rw [h0]; exact Tryd.underlying3, h1, by rw [h0]; exact intC⟩
    · have e : f1 = f := by simpa using hf
      subst e
      exact ⟨by rw [h2]; exact Tryd.underlying3, h3, by rw [h2]; exact intC⟩) thC e4
  have hcs' : cs = #[.int .i64 16, .int .i64 (-1)] := by
    apply Array.toList_inj.1
    rw [hcs]
    rfl
  subst hcs'
  exact ⟨by simpa using World.var?_cell nobG e3 0, by simpa using World.var?_cell nobG e3 1⟩

theorem nobT_of_laid {W : World} (h : laidMetH Tryd.prog laidN W) : NobT W := by
  have h' : laidMet Tryd.prog laidN W := h
  exact nobT_of_reads (Lib.laidMet.reads h' (List.mem_singleton.2 rfl))

/-- A world that meets the condition: the settled one, the variable's cells laid. -/
noncomputable def laidWorldN (os : Os) : World :=
  let w0 := World.holding Tryd.prog os ⟨#[], #[], []⟩
  { w0 with heap := w0.heap.modify 0 fun
      | .cells _ t frozen => .cells #[.int .i64 16, .int .i64 (-1)] t frozen
      | o => o }
theorem laidWorldN_met (os : Os) (args : Array Value) : laidMetH Tryd.prog laidN ((laidWorldN os).forCall (fun _ _ => 0) ⟨#[], args, []⟩).memory :=
  laidMetH_of_parts (laidMet_of_run (ps := [.cell 0 0, .cell 0 1]) 8 (by kernel_rfl) (by kernel_rfl) (by kernel_rfl)) (by kernel_rfl)

end Go.Proofs.YtbepfmcaolmhgaaDoor

/- A card's row that lists package errors' own variable and line's variable nobody; a world that meets that. -/
namespace Go.Proofs.YtbepfmcaolmhgaaDoor
open Go.ChangeShapes Go.WideShapes Go.RowKit

/-- What the rows list. -/
def laidB : List (String × DataW Unit) := [("errors.errorType", Rows.laid_errors_errorType), ("waywarden/line.nobody", Rows.laid_waywarden_line_nobody)]

theorem bothT_of_laid {W : World} (h : laidMetH Tryd.prog laidB W) : ErrT W ∧ NobT W := by
  have h' : laidMet Tryd.prog [("waywarden/line.nobody", Rows.laid_waywarden_line_nobody)] W ∧ handlesMet Tryd.prog laidE W := h
  have h2 : laidMetH Tryd.prog laidE W := (show laidMet Tryd.prog [] W ∧ handlesMet Tryd.prog laidE W from ⟨laidMet_nil _ _, h'.2⟩)
  exact ⟨errT_of_laid h2, nobT_of_reads (Lib.laidMet.reads h'.1 (List.mem_singleton.2 rfl))⟩

/-- A world that meets the condition: the settled one, the variables' cells laid. -/
noncomputable def laidWorldB (os : Os) : World :=
  let w0 := World.holding Tryd.prog os ⟨#[], #[], []⟩
  let w1 : World := { w0 with heap := w0.heap.modify 1 fun
      | .cells _ t frozen => .cells #[.iface 133 (.agg #[.pointer (some ⟨2, 27, none⟩)])] t frozen
      | o => o }
  { w1 with heap := w1.heap.modify 0 fun
      | .cells _ t frozen => .cells #[.int .i64 16, .int .i64 (-1)] t frozen
      | o => o }
theorem laidWorldB_met (os : Os) (args : Array Value) : laidMetH Tryd.prog laidB ((laidWorldB os).forCall (fun _ _ => 0) ⟨#[], args, []⟩).memory :=
  laidMetH_of_parts (laidMet_of_run (ps := [.cell 0 0, .cell 0 1]) 8 (by kernel_rfl) (by kernel_rfl) (by kernel_rfl)) (by kernel_rfl)

end Go.Proofs.YtbepfmcaolmhgaaDoor

/- The row of TraceArrives: for every input the law answers true, and each argument reads as it did. No further condition. -/
namespace Go.Proofs.YtbepfmcaolmhgaaDoor
open Go.ChangeShapes Go.WideShapes Go.ChangeAt Go.RowKit
set_option linter.unusedVariables false

theorem traceArrives_params : ∀ t ∈ Tryd.f8.params.toList, Tryd.prog.readableRec t = true ∧ t < Tryd.prog.types.size := by
  have h : (Tryd.f8.params.toList.all fun t => Tryd.prog.readableRec t && decide (t < Tryd.prog.types.size)) = true := by kernel_rfl
  intro t ht
  have := List.all_eq_true.1 h t ht
  simpa using this

set_option maxRecDepth 100000 in
theorem traceArrives_lifted (os : Os) (started : os.Started) (H : Type) (enc : TypeId × Value → H) :
    ReturnsInHanded {} Tryd.checked os 8 .any (fun w args => (Rows.traceArrivesSpec.pre enc Tryd.prog Tryd.f8 [] false w args ∧ laidMetH Tryd.prog laidB w) ∧ sizedMet enc Tryd.prog Tryd.f8 (OpenSpec.ofChange Rows.traceArrivesSpec) false w args) (Rows.traceArrivesSpec.post enc Tryd.prog Tryd.f8 false true false false) := by
  refine returnsInHanded_of_change_and (C := Tryd.checked) (X := fun w _ => laidMetH Tryd.prog laidB w) (fun _ _ _ hh h => h.of_heap hh) ownKnobNone started (by kernel_rfl) Tryd.func8
    (ChangeSpec.witness_at (enc := enc) (C := Tryd.checked) (os := os) (X := fun w _ => laidMetH Tryd.prog laidB w) false (laidWorldB os) #[.int .i64 0, .slice none 0 0, .int .i64 0, .int .i64 0] 8 rfl (by kernel_rfl) (by kernel_rfl) (by kernel_rfl) (by kernel_rfl) (by kernel_rfl) (laidWorldB_met os _)) ?_
  intro W base args ds gs before hval0 hW hcnd hsz0 hL _
  have hET := bothT_of_laid hL
  have hval : ∀ (j : Nat) t v, Tryd.f8.params[j]? = some t → args[j]? = some v → Value.okWide Tryd.prog W .any base t v := hval0
  have hW' := hW
  obtain ⟨p, q, hA0, hV, rfl, hfz, hnd⟩ := hW
  obtain ⟨rfl, rfl⟩ := trodVars_none hV
  have hA : DataW.TrodAll enc Tryd.prog W 0 (fun _ => true) true Tryd.f8.params.toList args.toList ds p := hA0
  have hlt : ∀ x ∈ p ++ [], x.block < W.heap.size := fun x hx => hW'.lt x hx
  rw [Tryd.params8] at hA hval
  obtain ⟨v0, vs0, d0, ds0, p0, q0, hargs, rfl, rfl, h0, r0⟩ := trodAll_cons hA
  obtain ⟨v1, vs1, d1, ds1, p1, q1, rfl, rfl, rfl, h1, r1⟩ := trodAll_cons r0
  obtain ⟨v2, vs2, d2, ds2, p2, q2, rfl, rfl, rfl, h2, r2⟩ := trodAll_cons r1
  obtain ⟨v3, vs3, d3, ds3, p3, q3, rfl, rfl, rfl, h3, r3⟩ := trodAll_cons r2
  obtain ⟨rfl, rfl, rfl⟩ := trodAll_nil r3
  obtain rfl : args = #[v0, v1, v2, v3] := by cases args; simp_all
  obtain ⟨x0, rfl, rfl, rfl, wx0⟩ := open_int Tryd.underlying3 (hval 0 3 v0 rfl rfl) h0
  obtain ⟨A1, n1, c1, a1, b1, k1, rfl, hn1, hc1, hl1, hwf1⟩ := open_lnk Tryd.underlying22 link_fields Tryd.underlying3 link_cells link_int (hval 1 22 v1 rfl rfl) h1
  obtain ⟨x2, rfl, rfl, rfl, wx2⟩ := open_int Tryd.underlying3 (hval 2 3 v2 rfl rfl) h2
  obtain ⟨x3, rfl, rfl, rfl, wx3⟩ := open_int Tryd.underlying3 (hval 3 3 v3 rfl rfl) h3
  refine (traceArrives_walk x0 A1 n1 c1 a1 b1 k1 x2 x3 W hET.1 hET.2 hl1 (Nat.le_trans hn1 hc1)).mono fun e W' ⟨he, hb⟩ => ?_
  subst he
  exact ⟨_, rfl, law_post laidOutAll traceArrives_params rfl Tryd.underlying4 rfl hW' rfl hb⟩

theorem traceArrives_said : Rows.TraceArrivesSaid :=
  OpenClaim.holds_of_wide 8 Tryd.f8 rfl rfl rfl rfl rfl rfl rfl ⟨rfl, rfl, rfl, rfl, rfl⟩ rfl rfl rfl rfl rfl (by kernel_rfl) Tryd.func8 (by kernel_rfl)
    (of_decide_eq_true (by kernel_rfl)) (by unfold Func.isWrapper; rw [if_neg (of_decide_eq_false (by kernel_rfl))]; exact ⟨rfl, rfl⟩)
    (fun os started H enc _ => traceArrives_lifted os started H enc)

theorem traceArrives_holds : Rows.TraceArrivesCardSaid :=
  Claim7.holds_tied_plain_at .later [] [.handle, .data] true Rows.traceArrivesCard.stood.harness true
    traceArrives_said (fun _ h => by cases h) (by kernel_rfl) (fun _ h => by cases h) traceArrives_row_tie rfl ⟨rfl, rfl⟩ (by kernel_rfl) rfl
    (fun f fn hf hfn => by
      obtain rfl : f = 8 := Option.some.inj ((show Tryd.prog.funcNamed "waywarden/waywardenlaw4.TraceArrives" = some 8 by kernel_rfl).symm.trans hf) |>.symm
      obtain rfl : fn = Tryd.f8 := (Option.some.inj (Tryd.func8.symm.trans hfn)).symm
      refine ⟨by kernel_rfl, fun j t ht => ?_⟩
      have h : (Tryd.f8.params.toList.all fun t => Tryd.prog.wantsStandIn t == false) = true := by kernel_rfl
      have := List.all_eq_true.1 h t (by
        rw [← Array.getElem?_toList] at ht
        exact List.mem_of_getElem? ht)
      have h2 : Tryd.prog.wantsStandIn t = false := by simpa using this
      exact h2)
    (by kernel_rfl)

end Go.Proofs.YtbepfmcaolmhgaaDoor


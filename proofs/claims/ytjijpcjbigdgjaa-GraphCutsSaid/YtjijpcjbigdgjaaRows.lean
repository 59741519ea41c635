/-
  No cell of these rows narrows 'for every input' (looked for: loops, veiled, ifaces, maps, wideKeys, modest, calm, conditions, laid).
  DERIVED. THE GIVEN ROWS OF THIS SEAT. 12 by the template 'for every input the law returns true; each argument reads behind the call as it read before'; 0 by the template 'total and deterministic' (their statements: YtjijpcjbigdgjaaTotals.lean).
  GIVEN WITH THE SEED: the statements are not yours to turn. If you find one false, say at which input.
  Laid BY PROGRAM, IN A SANDBOX (cutbox-rows.mjs): the forced cells as the released guide's own fill.sh prints them over the translation 8e4e991ca9b82c3b… (all of the seat's roots in one cut). By AI agents, Wed Nov 11 2026. No macro, syntax, notation, axiom, sorry.
-/
import Derived.Test.YtjijpcjbigdgjaaChecked
import GoSem.Claim
import GoSem.ClaimJoined
import GoSem.ClaimMapViews
import Derived.JoinedTies
import Derived.KernelRfl
namespace Go.Proofs.Ytjijpcjbigdgjaa
/- THE CELL 'sum', in the pinned program and in every row, IS THE sha256 OF THE DUMP (.gsa) THAT YtjijpcjbigdgjaaProg.lean LOADS. Nothing in Lean hashes anything: it is a label: what it is worth is what the hold of that sum in a sandbox is worth. -/
noncomputable def Try.pinned : Pinned := { name := "ytjijpcjbigdgjaa", sum := "8e4e991ca9b82c3b07c07df619740151edca88a19288227b710f9bc0c5f67001", checked := Try.checked }
namespace Rows
def none {H : Type} : Left H := { results := [], args := [] }

/-- 'waywardenlaw2.DistOrder': WHATEVER THE INPUT: true; the input reads as it did. -/
def distOrderSpec : ChangeSpec := { name := "distOrder", fn := fun _ => fun
  | [d1, d2, d3] => { results := [.lit (.bool true)], args := [d1, d2, d3] }
  | _ => none }
def distOrderRow : OpenClaim := { program := "ytjijpcjbigdgjaa", sum := "8e4e991ca9b82c3b07c07df619740151edca88a19288227b710f9bc0c5f67001", func := "waywarden/waywardenlaw2.DistOrder", spec := "distOrder", unfollowed := true, recurses := true, plainKeys := false, apart := false }
def DistOrderSaid : Prop := distOrderRow.holds Try.pinned (OpenSpec.ofChange distOrderSpec)

/-- ITS FALSE NEIGHBOUR: 'it returns false'. Refute it at one input. -/
def distOrderWrong : ChangeSpec := { name := "distOrder", fn := fun _ => fun
  | [d1, d2, d3] => { results := [.lit (.bool false)], args := [d1, d2, d3] }
  | _ => none }
def DistOrderWrongFalsely : Prop := distOrderRow.holds Try.pinned (OpenSpec.ofChange distOrderWrong)

/-- 'waywardenlaw2.DistRing': WHATEVER THE INPUT: true; the input reads as it did. -/
def distRingSpec : ChangeSpec := { name := "distRing", fn := fun _ => fun
  | [d1, d2, d3] => { results := [.lit (.bool true)], args := [d1, d2, d3] }
  | _ => none }
def distRingRow : OpenClaim := { program := "ytjijpcjbigdgjaa", sum := "8e4e991ca9b82c3b07c07df619740151edca88a19288227b710f9bc0c5f67001", func := "waywarden/waywardenlaw2.DistRing", spec := "distRing", unfollowed := true, recurses := true, plainKeys := false, apart := false }
def DistRingSaid : Prop := distRingRow.holds Try.pinned (OpenSpec.ofChange distRingSpec)

/-- ITS FALSE NEIGHBOUR: 'it returns false'. Refute it at one input. -/
def distRingWrong : ChangeSpec := { name := "distRing", fn := fun _ => fun
  | [d1, d2, d3] => { results := [.lit (.bool false)], args := [d1, d2, d3] }
  | _ => none }
def DistRingWrongFalsely : Prop := distRingRow.holds Try.pinned (OpenSpec.ofChange distRingWrong)

/-- 'waywardenlaw4.DampFalls': WHATEVER THE INPUT: true; the input reads as it did. -/
def dampFallsSpec : ChangeSpec := { name := "dampFalls", fn := fun _ => fun
  | [d1, d2, d3, d4] => { results := [.lit (.bool true)], args := [d1, d2, d3, d4] }
  | _ => none }
def dampFallsRow : OpenClaim := { program := "ytjijpcjbigdgjaa", sum := "8e4e991ca9b82c3b07c07df619740151edca88a19288227b710f9bc0c5f67001", func := "waywarden/waywardenlaw4.DampFalls", spec := "dampFalls", plainKeys := false, apart := false }
def DampFallsSaid : Prop := dampFallsRow.holds Try.pinned (OpenSpec.ofChange dampFallsSpec)

/-- ITS FALSE NEIGHBOUR: 'it returns false'. Refute it at one input. -/
def dampFallsWrong : ChangeSpec := { name := "dampFalls", fn := fun _ => fun
  | [d1, d2, d3, d4] => { results := [.lit (.bool false)], args := [d1, d2, d3, d4] }
  | _ => none }
def DampFallsWrongFalsely : Prop := dampFallsRow.holds Try.pinned (OpenSpec.ofChange dampFallsWrong)

/-- 'waywardenlaw4.DampHolds': WHATEVER THE INPUT: true; the input reads as it did. -/
def dampHoldsSpec : ChangeSpec := { name := "dampHolds", fn := fun _ => fun
  | [d1, d2, d3, d4] => { results := [.lit (.bool true)], args := [d1, d2, d3, d4] }
  | _ => none }
def dampHoldsRow : OpenClaim := { program := "ytjijpcjbigdgjaa", sum := "8e4e991ca9b82c3b07c07df619740151edca88a19288227b710f9bc0c5f67001", func := "waywarden/waywardenlaw4.DampHolds", spec := "dampHolds", plainKeys := false, apart := false }
def DampHoldsSaid : Prop := dampHoldsRow.holds Try.pinned (OpenSpec.ofChange dampHoldsSpec)

/-- ITS FALSE NEIGHBOUR: 'it returns false'. Refute it at one input. -/
def dampHoldsWrong : ChangeSpec := { name := "dampHolds", fn := fun _ => fun
  | [d1, d2, d3, d4] => { results := [.lit (.bool false)], args := [d1, d2, d3, d4] }
  | _ => none }
def DampHoldsWrongFalsely : Prop := dampHoldsRow.holds Try.pinned (OpenSpec.ofChange dampHoldsWrong)

/-- 'waywardenlaw2.HeapSorts': WHATEVER THE INPUT: true; the input reads as it did. -/
def heapSortsSpec : ChangeSpec := { name := "heapSorts", fn := fun _ => fun
  | [d] => { results := [.lit (.bool true)], args := [d] }
  | _ => none }
def heapSortsRow : OpenClaim := { program := "ytjijpcjbigdgjaa", sum := "8e4e991ca9b82c3b07c07df619740151edca88a19288227b710f9bc0c5f67001", func := "waywarden/waywardenlaw2.HeapSorts", spec := "heapSorts", plainKeys := false, apart := false }
def HeapSortsSaid : Prop := heapSortsRow.holds Try.pinned (OpenSpec.ofChange heapSortsSpec)

/-- ITS FALSE NEIGHBOUR: 'it returns false'. Refute it at one input. -/
def heapSortsWrong : ChangeSpec := { name := "heapSorts", fn := fun _ => fun
  | [d] => { results := [.lit (.bool false)], args := [d] }
  | _ => none }
def HeapSortsWrongFalsely : Prop := heapSortsRow.holds Try.pinned (OpenSpec.ofChange heapSortsWrong)

/-- 'waywardenlaw2.HeapMoves': WHATEVER THE INPUT: true; the input reads as it did. -/
def heapMovesSpec : ChangeSpec := { name := "heapMoves", fn := fun _ => fun
  | [d1, d2, d3, d4] => { results := [.lit (.bool true)], args := [d1, d2, d3, d4] }
  | _ => none }
def heapMovesRow : OpenClaim := { program := "ytjijpcjbigdgjaa", sum := "8e4e991ca9b82c3b07c07df619740151edca88a19288227b710f9bc0c5f67001", func := "waywarden/waywardenlaw2.HeapMoves", spec := "heapMoves", plainKeys := false, apart := false }
def HeapMovesSaid : Prop := heapMovesRow.holds Try.pinned (OpenSpec.ofChange heapMovesSpec)

/-- ITS FALSE NEIGHBOUR: 'it returns false'. Refute it at one input. -/
def heapMovesWrong : ChangeSpec := { name := "heapMoves", fn := fun _ => fun
  | [d1, d2, d3, d4] => { results := [.lit (.bool false)], args := [d1, d2, d3, d4] }
  | _ => none }
def HeapMovesWrongFalsely : Prop := heapMovesRow.holds Try.pinned (OpenSpec.ofChange heapMovesWrong)

/-- 'waywardenlaw2.MatLaws': WHATEVER THE INPUT: true; the input reads as it did. -/
def matLawsSpec : ChangeSpec := { name := "matLaws", fn := fun _ => fun
  | [d1, d2, d3] => { results := [.lit (.bool true)], args := [d1, d2, d3] }
  | _ => none }
def matLawsRow : OpenClaim := { program := "ytjijpcjbigdgjaa", sum := "8e4e991ca9b82c3b07c07df619740151edca88a19288227b710f9bc0c5f67001", func := "waywarden/waywardenlaw2.MatLaws", spec := "matLaws", plainKeys := false, apart := false }
def MatLawsSaid : Prop := matLawsRow.holds Try.pinned (OpenSpec.ofChange matLawsSpec)

/-- ITS FALSE NEIGHBOUR: 'it returns false'. Refute it at one input. -/
def matLawsWrong : ChangeSpec := { name := "matLaws", fn := fun _ => fun
  | [d1, d2, d3] => { results := [.lit (.bool false)], args := [d1, d2, d3] }
  | _ => none }
def MatLawsWrongFalsely : Prop := matLawsRow.holds Try.pinned (OpenSpec.ofChange matLawsWrong)

/-- 'waywardenlaw2.BellFixed': WHATEVER THE INPUT: true; the input reads as it did. -/
def bellFixedSpec : ChangeSpec := { name := "bellFixed", fn := fun _ => fun
  | [d1, d2, d3, d4] => { results := [.lit (.bool true)], args := [d1, d2, d3, d4] }
  | _ => none }
def bellFixedRow : OpenClaim := { program := "ytjijpcjbigdgjaa", sum := "8e4e991ca9b82c3b07c07df619740151edca88a19288227b710f9bc0c5f67001", func := "waywarden/waywardenlaw2.BellFixed", spec := "bellFixed", plainKeys := false, apart := false }
def BellFixedSaid : Prop := bellFixedRow.holds Try.pinned (OpenSpec.ofChange bellFixedSpec)

/-- ITS FALSE NEIGHBOUR: 'it returns false'. Refute it at one input. -/
def bellFixedWrong : ChangeSpec := { name := "bellFixed", fn := fun _ => fun
  | [d1, d2, d3, d4] => { results := [.lit (.bool false)], args := [d1, d2, d3, d4] }
  | _ => none }
def BellFixedWrongFalsely : Prop := bellFixedRow.holds Try.pinned (OpenSpec.ofChange bellFixedWrong)

/-- 'waywardenlaw2.BellRises': WHATEVER THE INPUT: true; the input reads as it did. -/
def bellRisesSpec : ChangeSpec := { name := "bellRises", fn := fun _ => fun
  | [d1, d2, d3, d4, d5] => { results := [.lit (.bool true)], args := [d1, d2, d3, d4, d5] }
  | _ => none }
def bellRisesRow : OpenClaim := { program := "ytjijpcjbigdgjaa", sum := "8e4e991ca9b82c3b07c07df619740151edca88a19288227b710f9bc0c5f67001", func := "waywarden/waywardenlaw2.BellRises", spec := "bellRises", plainKeys := false, apart := false }
def BellRisesSaid : Prop := bellRisesRow.holds Try.pinned (OpenSpec.ofChange bellRisesSpec)

/-- ITS FALSE NEIGHBOUR: 'it returns false'. Refute it at one input. -/
def bellRisesWrong : ChangeSpec := { name := "bellRises", fn := fun _ => fun
  | [d1, d2, d3, d4, d5] => { results := [.lit (.bool false)], args := [d1, d2, d3, d4, d5] }
  | _ => none }
def BellRisesWrongFalsely : Prop := bellRisesRow.holds Try.pinned (OpenSpec.ofChange bellRisesWrong)

/-- 'waywardenlaw2.BellLeast': WHATEVER THE INPUT: true; the input reads as it did. -/
def bellLeastSpec : ChangeSpec := { name := "bellLeast", fn := fun _ => fun
  | [d1, d2, d3, d4] => { results := [.lit (.bool true)], args := [d1, d2, d3, d4] }
  | _ => none }
def bellLeastRow : OpenClaim := { program := "ytjijpcjbigdgjaa", sum := "8e4e991ca9b82c3b07c07df619740151edca88a19288227b710f9bc0c5f67001", func := "waywarden/waywardenlaw2.BellLeast", spec := "bellLeast", plainKeys := false, apart := false }
def BellLeastSaid : Prop := bellLeastRow.holds Try.pinned (OpenSpec.ofChange bellLeastSpec)

/-- ITS FALSE NEIGHBOUR: 'it returns false'. Refute it at one input. -/
def bellLeastWrong : ChangeSpec := { name := "bellLeast", fn := fun _ => fun
  | [d1, d2, d3, d4] => { results := [.lit (.bool false)], args := [d1, d2, d3, d4] }
  | _ => none }
def BellLeastWrongFalsely : Prop := bellLeastRow.holds Try.pinned (OpenSpec.ofChange bellLeastWrong)

/-- 'waywardenlaw2.GraphCuts': WHATEVER THE INPUT: true; the input reads as it did. -/
def graphCutsSpec : ChangeSpec := { name := "graphCuts", fn := fun _ => fun
  | [d1, d2, d3, d4, d5, d6] => { results := [.lit (.bool true)], args := [d1, d2, d3, d4, d5, d6] }
  | _ => none }
def graphCutsRow : OpenClaim := { program := "ytjijpcjbigdgjaa", sum := "8e4e991ca9b82c3b07c07df619740151edca88a19288227b710f9bc0c5f67001", func := "waywarden/waywardenlaw2.GraphCuts", spec := "graphCuts", unfollowed := true, recurses := true, plainKeys := false, apart := false }
def GraphCutsSaid : Prop := graphCutsRow.holds Try.pinned (OpenSpec.ofChange graphCutsSpec)

/-- ITS FALSE NEIGHBOUR: 'it returns false'. Refute it at one input. -/
def graphCutsWrong : ChangeSpec := { name := "graphCuts", fn := fun _ => fun
  | [d1, d2, d3, d4, d5, d6] => { results := [.lit (.bool false)], args := [d1, d2, d3, d4, d5, d6] }
  | _ => none }
def GraphCutsWrongFalsely : Prop := graphCutsRow.holds Try.pinned (OpenSpec.ofChange graphCutsWrong)

/-- 'waywardenlaw2.MatStar': WHATEVER THE INPUT: true; the input reads as it did. -/
def matStarSpec : ChangeSpec := { name := "matStar", fn := fun _ => fun
  | [d1, d2, d3] => { results := [.lit (.bool true)], args := [d1, d2, d3] }
  | _ => none }
def matStarRow : OpenClaim := { program := "ytjijpcjbigdgjaa", sum := "8e4e991ca9b82c3b07c07df619740151edca88a19288227b710f9bc0c5f67001", func := "waywarden/waywardenlaw2.MatStar", spec := "matStar", plainKeys := false, apart := false }
def MatStarSaid : Prop := matStarRow.holds Try.pinned (OpenSpec.ofChange matStarSpec)

/-- ITS FALSE NEIGHBOUR: 'it returns false'. Refute it at one input. -/
def matStarWrong : ChangeSpec := { name := "matStar", fn := fun _ => fun
  | [d1, d2, d3] => { results := [.lit (.bool false)], args := [d1, d2, d3] }
  | _ => none }
def MatStarWrongFalsely : Prop := matStarRow.holds Try.pinned (OpenSpec.ofChange matStarWrong)

/- THE SECOND FORM. 'bulk': how many values and letters a reading holds, each counted each time it is reached (what is shared counts as often as it is met; a slice's spare places count too). A statement '..UptoSaid' is the law's where the arguments, and the package variables that the reading takes, are together of bulk at most 1048576: NARROWER than '..Said'. Prove '..Said' where nothing that the law and all that it calls make is longer than what came in: it says more and counts as full. Else prove '..UptoSaid'. A law counts once. -/
mutual
def uptoBulk {H : Type} : DataW H → Nat
  | .lit (.string bytes) => bytes.length + 1
  | .lit _ => 1
  | .nil => 1
  | .ptr d => uptoBulk d + 1
  | .slice elems spare => uptoBulkAll elems + uptoBulkAll spare + 1
  | .agg parts => uptoBulkAll parts + 1
  | .iface _ d => uptoBulk d + 1
  | .map entries => uptoBulkEntries entries + 1
  | .held _ => 1
def uptoBulkAll {H : Type} : List (DataW H) → Nat
  | [] => 0
  | d :: r => uptoBulk d + uptoBulkAll r
def uptoBulkEntries {H : Type} : List (Lit × DataW H) → Nat
  | [] => 0
  | x :: r => uptoBulkEntry x + uptoBulkEntries r
def uptoBulkEntry {H : Type} : Lit × DataW H → Nat
  | (.string bytes, d) => bytes.length + uptoBulk d + 1
  | (_, d) => uptoBulk d + 1
 end
def uptoSmall : (H : Type) → List (DataW H) → Bool := fun _ ds => decide (uptoBulkAll ds ≤ 1048576)
def OpenSpec.upto (s : _root_.Go.ChangeSpec) : _root_.Go.OpenSpec := { _root_.Go.OpenSpec.ofChange s with cond := some uptoSmall }

/-- 'waywardenlaw2.DistOrder', WHERE WHAT IT READS IS OF BULK AT MOST 1048576: true; the input reads as it did. -/
def distOrderUptoRow : OpenClaim := { program := "ytjijpcjbigdgjaa", sum := "8e4e991ca9b82c3b07c07df619740151edca88a19288227b710f9bc0c5f67001", func := "waywarden/waywardenlaw2.DistOrder", spec := "distOrder", unfollowed := true, recurses := true, plainKeys := false, apart := false, narrowed := true }
def DistOrderUptoSaid : Prop := distOrderUptoRow.holds Try.pinned (OpenSpec.upto distOrderSpec)

/-- 'waywardenlaw2.DistRing', WHERE WHAT IT READS IS OF BULK AT MOST 1048576: true; the input reads as it did. -/
def distRingUptoRow : OpenClaim := { program := "ytjijpcjbigdgjaa", sum := "8e4e991ca9b82c3b07c07df619740151edca88a19288227b710f9bc0c5f67001", func := "waywarden/waywardenlaw2.DistRing", spec := "distRing", unfollowed := true, recurses := true, plainKeys := false, apart := false, narrowed := true }
def DistRingUptoSaid : Prop := distRingUptoRow.holds Try.pinned (OpenSpec.upto distRingSpec)

/-- 'waywardenlaw4.DampFalls', WHERE WHAT IT READS IS OF BULK AT MOST 1048576: true; the input reads as it did. -/
def dampFallsUptoRow : OpenClaim := { program := "ytjijpcjbigdgjaa", sum := "8e4e991ca9b82c3b07c07df619740151edca88a19288227b710f9bc0c5f67001", func := "waywarden/waywardenlaw4.DampFalls", spec := "dampFalls", plainKeys := false, apart := false, narrowed := true }
def DampFallsUptoSaid : Prop := dampFallsUptoRow.holds Try.pinned (OpenSpec.upto dampFallsSpec)

/-- 'waywardenlaw4.DampHolds', WHERE WHAT IT READS IS OF BULK AT MOST 1048576: true; the input reads as it did. -/
def dampHoldsUptoRow : OpenClaim := { program := "ytjijpcjbigdgjaa", sum := "8e4e991ca9b82c3b07c07df619740151edca88a19288227b710f9bc0c5f67001", func := "waywarden/waywardenlaw4.DampHolds", spec := "dampHolds", plainKeys := false, apart := false, narrowed := true }
def DampHoldsUptoSaid : Prop := dampHoldsUptoRow.holds Try.pinned (OpenSpec.upto dampHoldsSpec)

/-- 'waywardenlaw2.HeapSorts', WHERE WHAT IT READS IS OF BULK AT MOST 1048576: true; the input reads as it did. -/
def heapSortsUptoRow : OpenClaim := { program := "ytjijpcjbigdgjaa", sum := "8e4e991ca9b82c3b07c07df619740151edca88a19288227b710f9bc0c5f67001", func := "waywarden/waywardenlaw2.HeapSorts", spec := "heapSorts", plainKeys := false, apart := false, narrowed := true }
def HeapSortsUptoSaid : Prop := heapSortsUptoRow.holds Try.pinned (OpenSpec.upto heapSortsSpec)

/-- 'waywardenlaw2.HeapMoves', WHERE WHAT IT READS IS OF BULK AT MOST 1048576: true; the input reads as it did. -/
def heapMovesUptoRow : OpenClaim := { program := "ytjijpcjbigdgjaa", sum := "8e4e991ca9b82c3b07c07df619740151edca88a19288227b710f9bc0c5f67001", func := "waywarden/waywardenlaw2.HeapMoves", spec := "heapMoves", plainKeys := false, apart := false, narrowed := true }
def HeapMovesUptoSaid : Prop := heapMovesUptoRow.holds Try.pinned (OpenSpec.upto heapMovesSpec)

/-- 'waywardenlaw2.MatLaws', WHERE WHAT IT READS IS OF BULK AT MOST 1048576: true; the input reads as it did. -/
def matLawsUptoRow : OpenClaim := { program := "ytjijpcjbigdgjaa", sum := "8e4e991ca9b82c3b07c07df619740151edca88a19288227b710f9bc0c5f67001", func := "waywarden/waywardenlaw2.MatLaws", spec := "matLaws", plainKeys := false, apart := false, narrowed := true }
def MatLawsUptoSaid : Prop := matLawsUptoRow.holds Try.pinned (OpenSpec.upto matLawsSpec)

/-- 'waywardenlaw2.BellFixed', WHERE WHAT IT READS IS OF BULK AT MOST 1048576: true; the input reads as it did. -/
def bellFixedUptoRow : OpenClaim := { program := "ytjijpcjbigdgjaa", sum := "8e4e991ca9b82c3b07c07df619740151edca88a19288227b710f9bc0c5f67001", func := "waywarden/waywardenlaw2.BellFixed", spec := "bellFixed", plainKeys := false, apart := false, narrowed := true }
def BellFixedUptoSaid : Prop := bellFixedUptoRow.holds Try.pinned (OpenSpec.upto bellFixedSpec)

/-- 'waywardenlaw2.BellRises', WHERE WHAT IT READS IS OF BULK AT MOST 1048576: true; the input reads as it did. -/
def bellRisesUptoRow : OpenClaim := { program := "ytjijpcjbigdgjaa", sum := "8e4e991ca9b82c3b07c07df619740151edca88a19288227b710f9bc0c5f67001", func := "waywarden/waywardenlaw2.BellRises", spec := "bellRises", plainKeys := false, apart := false, narrowed := true }
def BellRisesUptoSaid : Prop := bellRisesUptoRow.holds Try.pinned (OpenSpec.upto bellRisesSpec)

/-- 'waywardenlaw2.BellLeast', WHERE WHAT IT READS IS OF BULK AT MOST 1048576: true; the input reads as it did. -/
def bellLeastUptoRow : OpenClaim := { program := "ytjijpcjbigdgjaa", sum := "8e4e991ca9b82c3b07c07df619740151edca88a19288227b710f9bc0c5f67001", func := "waywarden/waywardenlaw2.BellLeast", spec := "bellLeast", plainKeys := false, apart := false, narrowed := true }
def BellLeastUptoSaid : Prop := bellLeastUptoRow.holds Try.pinned (OpenSpec.upto bellLeastSpec)

/-- 'waywardenlaw2.GraphCuts', WHERE WHAT IT READS IS OF BULK AT MOST 1048576: true; the input reads as it did. -/
def graphCutsUptoRow : OpenClaim := { program := "ytjijpcjbigdgjaa", sum := "8e4e991ca9b82c3b07c07df619740151edca88a19288227b710f9bc0c5f67001", func := "waywarden/waywardenlaw2.GraphCuts", spec := "graphCuts", unfollowed := true, recurses := true, plainKeys := false, apart := false, narrowed := true }
def GraphCutsUptoSaid : Prop := graphCutsUptoRow.holds Try.pinned (OpenSpec.upto graphCutsSpec)

/-- 'waywardenlaw2.MatStar', WHERE WHAT IT READS IS OF BULK AT MOST 1048576: true; the input reads as it did. -/
def matStarUptoRow : OpenClaim := { program := "ytjijpcjbigdgjaa", sum := "8e4e991ca9b82c3b07c07df619740151edca88a19288227b710f9bc0c5f67001", func := "waywarden/waywardenlaw2.MatStar", spec := "matStar", plainKeys := false, apart := false, narrowed := true }
def MatStarUptoSaid : Prop := matStarUptoRow.holds Try.pinned (OpenSpec.upto matStarSpec)

end Rows
end Go.Proofs.Ytjijpcjbigdgjaa

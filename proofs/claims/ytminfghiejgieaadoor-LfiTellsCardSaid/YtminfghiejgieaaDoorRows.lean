/-
  NARROWER THAN 'FOR EVERY INPUT', by the rows' own cells (each row's printed sentence says how): AsyncTells: laid · LfiTells: laid · WaysTell: laid.
  DERIVED. THE GIVEN ROWS OF THIS SEAT. 3 by the template 'for every input the law returns true; each argument reads behind the call as it read before'; 0 by the template 'total and deterministic' (their statements: YtminfghiejgieaaDoorTotals.lean).
  GIVEN WITH THE SEED: the statements are not yours to turn. If you find one false, say at which input.
  Laid BY PROGRAM, IN A SANDBOX (cutbox-rows.mjs): the forced cells as the released guide's own fill.sh prints them over the translation ba55d99937c5fabf… (all of the seat's roots in one cut). By AI agents, Wed Nov 11 2026. No macro, syntax, notation, axiom, sorry.
-/
import Derived.Test.YtminfghiejgieaaDoorChecked
import GoSem.Claim
import GoSem.ClaimJoined
import GoSem.ClaimMapViews
import Derived.JoinedTies
import Derived.KernelRfl
namespace Go.Proofs.YtminfghiejgieaaDoor
/- THE CELL 'sum', in the pinned program and in every row, IS THE sha256 OF THE DUMP (.gsa) THAT YtminfghiejgieaaDoorProg.lean LOADS. Nothing in Lean hashes anything: it is a label: what it is worth is what the hold of that sum in a sandbox is worth. -/
noncomputable def Tryd.pinned : Pinned := { name := "ytminfghiejgieaadoor", sum := "ba55d99937c5fabf5d75466e711922596c37894887dce73eb35a9ca9acc798ae", checked := Tryd.checked }
namespace Rows
def none {H : Type} : Left H := { results := [], args := [] }

/- WHAT THE LISTED PACKAGE-LEVEL VARIABLES READ AS WHEN THE CALL BEGINS. Each datum BY PROGRAM (the guide's laid-datum.mjs) off the statement by which the dump's own 'gosem.cut.vars' lays the variable. In a bare row this is a premise. The card (YtminfghiejgieaaDoorCards.lean) ties it to the program's text. -/
def laid_errors_errorType {H : Type} : DataW H := .iface "internal/reflectlite.rtype" (.agg [.ptr (.lit (.string [101, 114, 114, 111, 114]))])

/-- 'waywardenlaw4.AsyncTells': WHATEVER THE INPUT: true; the input reads as it did. -/
def asyncTellsSpec : ChangeSpec := { name := "asyncTells", fn := fun _ => fun
  | [d1, d2, d3, d4, d5, d6] => { results := [.lit (.bool true)], args := [d1, d2, d3, d4, d5, d6] }
  | _ => none }
def asyncTellsRow : OpenClaim := { program := "ytminfghiejgieaadoor", sum := "ba55d99937c5fabf5d75466e711922596c37894887dce73eb35a9ca9acc798ae", func := "waywarden/waywardenlaw4.AsyncTells", spec := "asyncTells", inPlace := ["internal/reflectlite.ValueOf", "(internal/reflectlite.Value).Type", "(internal/reflectlite.Value).IsNil", "internal/reflectlite.TypeOf", "(internal/reflectlite.Value).Elem", "(internal/reflectlite.Value).Set"], unfollowed := true, recurses := true, named := ["errors.errorType"], plainKeys := false, apart := false, laid := [("errors.errorType", laid_errors_errorType)] }
def AsyncTellsSaid : Prop := asyncTellsRow.holds Tryd.pinned (OpenSpec.ofChange asyncTellsSpec)

/-- ITS FALSE NEIGHBOUR: 'it returns false'. Refute it at one input. -/
def asyncTellsWrong : ChangeSpec := { name := "asyncTells", fn := fun _ => fun
  | [d1, d2, d3, d4, d5, d6] => { results := [.lit (.bool false)], args := [d1, d2, d3, d4, d5, d6] }
  | _ => none }
def AsyncTellsWrongFalsely : Prop := asyncTellsRow.holds Tryd.pinned (OpenSpec.ofChange asyncTellsWrong)

/-- 'waywardenlaw4.LfiTells': WHATEVER THE INPUT: true; the input reads as it did. -/
def lfiTellsSpec : ChangeSpec := { name := "lfiTells", fn := fun _ => fun
  | [d1, d2, d3, d4, d5, d6, d7] => { results := [.lit (.bool true)], args := [d1, d2, d3, d4, d5, d6, d7] }
  | _ => none }
def lfiTellsRow : OpenClaim := { program := "ytminfghiejgieaadoor", sum := "ba55d99937c5fabf5d75466e711922596c37894887dce73eb35a9ca9acc798ae", func := "waywarden/waywardenlaw4.LfiTells", spec := "lfiTells", inPlace := ["internal/reflectlite.ValueOf", "(internal/reflectlite.Value).Type", "(internal/reflectlite.Value).IsNil", "internal/reflectlite.TypeOf", "(internal/reflectlite.Value).Elem", "(internal/reflectlite.Value).Set"], unfollowed := true, recurses := true, named := ["errors.errorType"], plainKeys := false, apart := false, laid := [("errors.errorType", laid_errors_errorType)] }
def LfiTellsSaid : Prop := lfiTellsRow.holds Tryd.pinned (OpenSpec.ofChange lfiTellsSpec)

/-- ITS FALSE NEIGHBOUR: 'it returns false'. Refute it at one input. -/
def lfiTellsWrong : ChangeSpec := { name := "lfiTells", fn := fun _ => fun
  | [d1, d2, d3, d4, d5, d6, d7] => { results := [.lit (.bool false)], args := [d1, d2, d3, d4, d5, d6, d7] }
  | _ => none }
def LfiTellsWrongFalsely : Prop := lfiTellsRow.holds Tryd.pinned (OpenSpec.ofChange lfiTellsWrong)

/-- 'waywardenlaw2.WaysTell': WHATEVER THE INPUT: true; the input reads as it did. -/
def waysTellSpec : ChangeSpec := { name := "waysTell", fn := fun _ => fun
  | [d1, d2, d3, d4, d5] => { results := [.lit (.bool true)], args := [d1, d2, d3, d4, d5] }
  | _ => none }
def waysTellRow : OpenClaim := { program := "ytminfghiejgieaadoor", sum := "ba55d99937c5fabf5d75466e711922596c37894887dce73eb35a9ca9acc798ae", func := "waywarden/waywardenlaw2.WaysTell", spec := "waysTell", inPlace := ["internal/reflectlite.ValueOf", "(internal/reflectlite.Value).Type", "(internal/reflectlite.Value).IsNil", "internal/reflectlite.TypeOf", "(internal/reflectlite.Value).Elem", "(internal/reflectlite.Value).Set"], unfollowed := true, recurses := true, named := ["errors.errorType"], plainKeys := false, apart := false, laid := [("errors.errorType", laid_errors_errorType)] }
def WaysTellSaid : Prop := waysTellRow.holds Tryd.pinned (OpenSpec.ofChange waysTellSpec)

/-- ITS FALSE NEIGHBOUR: 'it returns false'. Refute it at one input. -/
def waysTellWrong : ChangeSpec := { name := "waysTell", fn := fun _ => fun
  | [d1, d2, d3, d4, d5] => { results := [.lit (.bool false)], args := [d1, d2, d3, d4, d5] }
  | _ => none }
def WaysTellWrongFalsely : Prop := waysTellRow.holds Tryd.pinned (OpenSpec.ofChange waysTellWrong)

/- THE SECOND FORM. 'bulk': how many values and letters a reading holds, each counted each time it is reached (what is shared counts as often as it is met; a slice's spare places count too). A statement '..UptoSaid' is the law's where the arguments, and the package variables that the reading takes, are together of bulk at most 1048576: NARROWER than '..Said'. Prove '..Said' where nothing that the law and all that it calls make is longer than what came in: it says more and counts as full. Else prove '..UptoSaid'. A law counts once. -/
mutual
def uptoBulk {H : Type} : DataW H → Nat
  | .lit (.string bytes) => bytes.length + 1
  | .lit _ => 1
  | .nil => 1
  | .ptr d => uptoBulk d + 1
  | .slice elems spare => uptoBulkAll elems + uptoBulkAll spare + 1
  | .agg parts => uptoBulkAll parts + 1
  | .iface _ d => uptoBulk d + 1
  | .map entries => uptoBulkEntries entries + 1
  | .held _ => 1
def uptoBulkAll {H : Type} : List (DataW H) → Nat
  | [] => 0
  | d :: r => uptoBulk d + uptoBulkAll r
def uptoBulkEntries {H : Type} : List (Lit × DataW H) → Nat
  | [] => 0
  | x :: r => uptoBulkEntry x + uptoBulkEntries r
def uptoBulkEntry {H : Type} : Lit × DataW H → Nat
  | (.string bytes, d) => bytes.length + uptoBulk d + 1
  | (_, d) => uptoBulk d + 1
 end
def uptoSmall : (H : Type) → List (DataW H) → Bool := fun _ ds => decide (uptoBulkAll ds ≤ 1048576)
def OpenSpec.upto (s : _root_.Go.ChangeSpec) : _root_.Go.OpenSpec := { _root_.Go.OpenSpec.ofChange s with cond := some uptoSmall }

/-- 'waywardenlaw4.AsyncTells', WHERE WHAT IT READS IS OF BULK AT MOST 1048576: true; the input reads as it did. -/
def asyncTellsUptoRow : OpenClaim := { program := "ytminfghiejgieaadoor", sum := "ba55d99937c5fabf5d75466e711922596c37894887dce73eb35a9ca9acc798ae", func := "waywarden/waywardenlaw4.AsyncTells", spec := "asyncTells", inPlace := ["internal/reflectlite.ValueOf", "(internal/reflectlite.Value).Type", "(internal/reflectlite.Value).IsNil", "internal/reflectlite.TypeOf", "(internal/reflectlite.Value).Elem", "(internal/reflectlite.Value).Set"], unfollowed := true, recurses := true, named := ["errors.errorType"], plainKeys := false, apart := false, laid := [("errors.errorType", laid_errors_errorType)], narrowed := true }
def AsyncTellsUptoSaid : Prop := asyncTellsUptoRow.holds Tryd.pinned (OpenSpec.upto asyncTellsSpec)

/-- 'waywardenlaw4.LfiTells', WHERE WHAT IT READS IS OF BULK AT MOST 1048576: true; the input reads as it did. -/
def lfiTellsUptoRow : OpenClaim := { program := "ytminfghiejgieaadoor", sum := "ba55d99937c5fabf5d75466e711922596c37894887dce73eb35a9ca9acc798ae", func := "waywarden/waywardenlaw4.LfiTells", spec := "lfiTells", inPlace := ["internal/reflectlite.ValueOf", "(internal/reflectlite.Value).Type", "(internal/reflectlite.Value).IsNil", "internal/reflectlite.TypeOf", "(internal/reflectlite.Value).Elem", "(internal/reflectlite.Value).Set"], unfollowed := true, recurses := true, named := ["errors.errorType"], plainKeys := false, apart := false, laid := [("errors.errorType", laid_errors_errorType)], narrowed := true }
def LfiTellsUptoSaid : Prop := lfiTellsUptoRow.holds Tryd.pinned (OpenSpec.upto lfiTellsSpec)

/-- 'waywardenlaw2.WaysTell', WHERE WHAT IT READS IS OF BULK AT MOST 1048576: true; the input reads as it did. -/
def waysTellUptoRow : OpenClaim := { program := "ytminfghiejgieaadoor", sum := "ba55d99937c5fabf5d75466e711922596c37894887dce73eb35a9ca9acc798ae", func := "waywarden/waywardenlaw2.WaysTell", spec := "waysTell", inPlace := ["internal/reflectlite.ValueOf", "(internal/reflectlite.Value).Type", "(internal/reflectlite.Value).IsNil", "internal/reflectlite.TypeOf", "(internal/reflectlite.Value).Elem", "(internal/reflectlite.Value).Set"], unfollowed := true, recurses := true, named := ["errors.errorType"], plainKeys := false, apart := false, laid := [("errors.errorType", laid_errors_errorType)], narrowed := true }
def WaysTellUptoSaid : Prop := waysTellUptoRow.holds Tryd.pinned (OpenSpec.upto waysTellSpec)

end Rows
end Go.Proofs.YtminfghiejgieaaDoor

/-
  NARROWER THAN 'FOR EVERY INPUT', by the rows' own cells (each row's printed sentence says how): DistTells: laid · TraceTells: laid · TraceShort: laid · DampTells: laid · TopFar: laid · LoopTells: laid · LoopStays: laid · LinePoison: laid.
  DERIVED. THE GIVEN ROWS OF THIS SEAT. 8 by the template 'for every input the law returns true; each argument reads behind the call as it read before'; 0 by the template 'total and deterministic' (their statements: YtjbilhpdnmgljaaDoorTotals.lean).
  GIVEN WITH THE SEED: the statements are not yours to turn. If you find one false, say at which input.
  Laid BY PROGRAM, IN A SANDBOX (cutbox-rows.mjs): the forced cells as the released guide's own fill.sh prints them over the translation 64e6bbc1b2b941a2… (all of the seat's roots in one cut). By AI agents, Wed Nov 11 2026. No macro, syntax, notation, axiom, sorry.
-/
import Derived.Test.YtjbilhpdnmgljaaDoorChecked
import GoSem.Claim
import GoSem.ClaimJoined
import GoSem.ClaimMapViews
import Derived.JoinedTies
import Derived.KernelRfl
namespace Go.Proofs.YtjbilhpdnmgljaaDoor
/- THE CELL 'sum', in the pinned program and in every row, IS THE sha256 OF THE DUMP (.gsa) THAT YtjbilhpdnmgljaaDoorProg.lean LOADS. Nothing in Lean hashes anything: it is a label: what it is worth is what the hold of that sum in a sandbox is worth. -/
noncomputable def Tryd.pinned : Pinned := { name := "ytjbilhpdnmgljaadoor", sum := "64e6bbc1b2b941a2ba6c83c9240da62286e6cef51e6880c71e88feb85e986cba", checked := Tryd.checked }
namespace Rows
def none {H : Type} : Left H := { results := [], args := [] }

/- WHAT THE LISTED PACKAGE-LEVEL VARIABLES READ AS WHEN THE CALL BEGINS. Each datum BY PROGRAM (the guide's laid-datum.mjs) off the statement by which the dump's own 'gosem.cut.vars' lays the variable. In a bare row this is a premise. The card (YtjbilhpdnmgljaaDoorCards.lean) ties it to the program's text. -/
def laid_errors_errorType {H : Type} : DataW H := .iface "internal/reflectlite.rtype" (.agg [.ptr (.lit (.string [101, 114, 114, 111, 114]))])
def laid_waywarden_line_nobody {H : Type} : DataW H := .agg [.lit (.int .i64 16), .lit (.int .i64 (-1))]

/-- 'waywardenlaw2.DistTells': WHATEVER THE INPUT: true; the input reads as it did. -/
def distTellsSpec : ChangeSpec := { name := "distTells", fn := fun _ => fun
  | [d1, d2] => { results := [.lit (.bool true)], args := [d1, d2] }
  | _ => none }
def distTellsRow : OpenClaim := { program := "ytjbilhpdnmgljaadoor", sum := "64e6bbc1b2b941a2ba6c83c9240da62286e6cef51e6880c71e88feb85e986cba", func := "waywarden/waywardenlaw2.DistTells", spec := "distTells", inPlace := ["internal/reflectlite.ValueOf", "(internal/reflectlite.Value).Type", "(internal/reflectlite.Value).IsNil", "internal/reflectlite.TypeOf", "(internal/reflectlite.Value).Elem", "(internal/reflectlite.Value).Set"], unfollowed := true, recurses := true, named := ["errors.errorType"], plainKeys := false, apart := false, laid := [("errors.errorType", laid_errors_errorType)] }
def DistTellsSaid : Prop := distTellsRow.holds Tryd.pinned (OpenSpec.ofChange distTellsSpec)

/-- ITS FALSE NEIGHBOUR: 'it returns false'. Refute it at one input. -/
def distTellsWrong : ChangeSpec := { name := "distTells", fn := fun _ => fun
  | [d1, d2] => { results := [.lit (.bool false)], args := [d1, d2] }
  | _ => none }
def DistTellsWrongFalsely : Prop := distTellsRow.holds Tryd.pinned (OpenSpec.ofChange distTellsWrong)

/-- 'waywardenlaw4.TraceTells': WHATEVER THE INPUT: true; the input reads as it did. -/
def traceTellsSpec : ChangeSpec := { name := "traceTells", fn := fun _ => fun
  | [d1, d2, d3, d4] => { results := [.lit (.bool true)], args := [d1, d2, d3, d4] }
  | _ => none }
def traceTellsRow : OpenClaim := { program := "ytjbilhpdnmgljaadoor", sum := "64e6bbc1b2b941a2ba6c83c9240da62286e6cef51e6880c71e88feb85e986cba", func := "waywarden/waywardenlaw4.TraceTells", spec := "traceTells", inPlace := ["internal/reflectlite.ValueOf", "(internal/reflectlite.Value).Type", "(internal/reflectlite.Value).IsNil", "internal/reflectlite.TypeOf", "(internal/reflectlite.Value).Elem", "(internal/reflectlite.Value).Set"], unfollowed := true, recurses := true, named := ["errors.errorType"], plainKeys := false, apart := false, laid := [("errors.errorType", laid_errors_errorType)] }
def TraceTellsSaid : Prop := traceTellsRow.holds Tryd.pinned (OpenSpec.ofChange traceTellsSpec)

/-- ITS FALSE NEIGHBOUR: 'it returns false'. Refute it at one input. -/
def traceTellsWrong : ChangeSpec := { name := "traceTells", fn := fun _ => fun
  | [d1, d2, d3, d4] => { results := [.lit (.bool false)], args := [d1, d2, d3, d4] }
  | _ => none }
def TraceTellsWrongFalsely : Prop := traceTellsRow.holds Tryd.pinned (OpenSpec.ofChange traceTellsWrong)

/-- 'waywardenlaw4.TraceShort': WHATEVER THE INPUT: true; the input reads as it did. -/
def traceShortSpec : ChangeSpec := { name := "traceShort", fn := fun _ => fun
  | [d1, d2, d3, d4, d5] => { results := [.lit (.bool true)], args := [d1, d2, d3, d4, d5] }
  | _ => none }
def traceShortRow : OpenClaim := { program := "ytjbilhpdnmgljaadoor", sum := "64e6bbc1b2b941a2ba6c83c9240da62286e6cef51e6880c71e88feb85e986cba", func := "waywarden/waywardenlaw4.TraceShort", spec := "traceShort", inPlace := ["internal/reflectlite.ValueOf", "(internal/reflectlite.Value).Type", "(internal/reflectlite.Value).IsNil", "internal/reflectlite.TypeOf", "(internal/reflectlite.Value).Elem", "(internal/reflectlite.Value).Set"], unfollowed := true, recurses := true, named := ["errors.errorType"], plainKeys := false, apart := false, laid := [("errors.errorType", laid_errors_errorType)] }
def TraceShortSaid : Prop := traceShortRow.holds Tryd.pinned (OpenSpec.ofChange traceShortSpec)

/-- ITS FALSE NEIGHBOUR: 'it returns false'. Refute it at one input. -/
def traceShortWrong : ChangeSpec := { name := "traceShort", fn := fun _ => fun
  | [d1, d2, d3, d4, d5] => { results := [.lit (.bool false)], args := [d1, d2, d3, d4, d5] }
  | _ => none }
def TraceShortWrongFalsely : Prop := traceShortRow.holds Tryd.pinned (OpenSpec.ofChange traceShortWrong)

/-- 'waywardenlaw4.DampTells': WHATEVER THE INPUT: true; the input reads as it did. -/
def dampTellsSpec : ChangeSpec := { name := "dampTells", fn := fun _ => fun
  | [d1, d2, d3] => { results := [.lit (.bool true)], args := [d1, d2, d3] }
  | _ => none }
def dampTellsRow : OpenClaim := { program := "ytjbilhpdnmgljaadoor", sum := "64e6bbc1b2b941a2ba6c83c9240da62286e6cef51e6880c71e88feb85e986cba", func := "waywarden/waywardenlaw4.DampTells", spec := "dampTells", inPlace := ["internal/reflectlite.ValueOf", "(internal/reflectlite.Value).Type", "(internal/reflectlite.Value).IsNil", "internal/reflectlite.TypeOf", "(internal/reflectlite.Value).Elem", "(internal/reflectlite.Value).Set"], unfollowed := true, recurses := true, named := ["errors.errorType"], plainKeys := false, apart := false, laid := [("errors.errorType", laid_errors_errorType)] }
def DampTellsSaid : Prop := dampTellsRow.holds Tryd.pinned (OpenSpec.ofChange dampTellsSpec)

/-- ITS FALSE NEIGHBOUR: 'it returns false'. Refute it at one input. -/
def dampTellsWrong : ChangeSpec := { name := "dampTells", fn := fun _ => fun
  | [d1, d2, d3] => { results := [.lit (.bool false)], args := [d1, d2, d3] }
  | _ => none }
def DampTellsWrongFalsely : Prop := dampTellsRow.holds Tryd.pinned (OpenSpec.ofChange dampTellsWrong)

/-- 'waywardentop.TopFar': WHATEVER THE INPUT: true; the input reads as it did. -/
def topFarSpec : ChangeSpec := { name := "topFar", fn := fun _ => fun
  | [d1, d2, d3] => { results := [.lit (.bool true)], args := [d1, d2, d3] }
  | _ => none }
def topFarRow : OpenClaim := { program := "ytjbilhpdnmgljaadoor", sum := "64e6bbc1b2b941a2ba6c83c9240da62286e6cef51e6880c71e88feb85e986cba", func := "waywarden/waywardentop.TopFar", spec := "topFar", unfollowed := true, recurses := true, named := ["waywarden/line.nobody"], plainKeys := false, apart := false, laid := [("waywarden/line.nobody", laid_waywarden_line_nobody)] }
def TopFarSaid : Prop := topFarRow.holds Tryd.pinned (OpenSpec.ofChange topFarSpec)

/-- ITS FALSE NEIGHBOUR: 'it returns false'. Refute it at one input. -/
def topFarWrong : ChangeSpec := { name := "topFar", fn := fun _ => fun
  | [d1, d2, d3] => { results := [.lit (.bool false)], args := [d1, d2, d3] }
  | _ => none }
def TopFarWrongFalsely : Prop := topFarRow.holds Tryd.pinned (OpenSpec.ofChange topFarWrong)

/-- 'waywardenlaw4.LoopTells': WHATEVER THE INPUT: true; the input reads as it did. -/
def loopTellsSpec : ChangeSpec := { name := "loopTells", fn := fun _ => fun
  | [d1, d2] => { results := [.lit (.bool true)], args := [d1, d2] }
  | _ => none }
def loopTellsRow : OpenClaim := { program := "ytjbilhpdnmgljaadoor", sum := "64e6bbc1b2b941a2ba6c83c9240da62286e6cef51e6880c71e88feb85e986cba", func := "waywarden/waywardenlaw4.LoopTells", spec := "loopTells", inPlace := ["internal/reflectlite.ValueOf", "(internal/reflectlite.Value).Type", "(internal/reflectlite.Value).IsNil", "internal/reflectlite.TypeOf", "(internal/reflectlite.Value).Elem", "(internal/reflectlite.Value).Set"], unfollowed := true, recurses := true, named := ["errors.errorType"], plainKeys := false, apart := false, laid := [("errors.errorType", laid_errors_errorType)] }
def LoopTellsSaid : Prop := loopTellsRow.holds Tryd.pinned (OpenSpec.ofChange loopTellsSpec)

/-- ITS FALSE NEIGHBOUR: 'it returns false'. Refute it at one input. -/
def loopTellsWrong : ChangeSpec := { name := "loopTells", fn := fun _ => fun
  | [d1, d2] => { results := [.lit (.bool false)], args := [d1, d2] }
  | _ => none }
def LoopTellsWrongFalsely : Prop := loopTellsRow.holds Tryd.pinned (OpenSpec.ofChange loopTellsWrong)

/-- 'waywardenlaw4.LoopStays': WHATEVER THE INPUT: true; the input reads as it did. -/
def loopStaysSpec : ChangeSpec := { name := "loopStays", fn := fun _ => fun
  | [d1, d2] => { results := [.lit (.bool true)], args := [d1, d2] }
  | _ => none }
def loopStaysRow : OpenClaim := { program := "ytjbilhpdnmgljaadoor", sum := "64e6bbc1b2b941a2ba6c83c9240da62286e6cef51e6880c71e88feb85e986cba", func := "waywarden/waywardenlaw4.LoopStays", spec := "loopStays", inPlace := ["internal/reflectlite.ValueOf", "(internal/reflectlite.Value).Type", "(internal/reflectlite.Value).IsNil", "internal/reflectlite.TypeOf", "(internal/reflectlite.Value).Elem", "(internal/reflectlite.Value).Set"], unfollowed := true, recurses := true, named := ["errors.errorType"], plainKeys := false, apart := false, laid := [("errors.errorType", laid_errors_errorType)] }
def LoopStaysSaid : Prop := loopStaysRow.holds Tryd.pinned (OpenSpec.ofChange loopStaysSpec)

/-- ITS FALSE NEIGHBOUR: 'it returns false'. Refute it at one input. -/
def loopStaysWrong : ChangeSpec := { name := "loopStays", fn := fun _ => fun
  | [d1, d2] => { results := [.lit (.bool false)], args := [d1, d2] }
  | _ => none }
def LoopStaysWrongFalsely : Prop := loopStaysRow.holds Tryd.pinned (OpenSpec.ofChange loopStaysWrong)

/-- 'waywardenlaw4.LinePoison': WHATEVER THE INPUT: true; the input reads as it did. -/
def linePoisonSpec : ChangeSpec := { name := "linePoison", fn := fun _ => fun
  | [d1, d2, d3] => { results := [.lit (.bool true)], args := [d1, d2, d3] }
  | _ => none }
def linePoisonRow : OpenClaim := { program := "ytjbilhpdnmgljaadoor", sum := "64e6bbc1b2b941a2ba6c83c9240da62286e6cef51e6880c71e88feb85e986cba", func := "waywarden/waywardenlaw4.LinePoison", spec := "linePoison", unfollowed := true, recurses := true, named := ["waywarden/line.nobody"], plainKeys := false, apart := false, laid := [("waywarden/line.nobody", laid_waywarden_line_nobody)] }
def LinePoisonSaid : Prop := linePoisonRow.holds Tryd.pinned (OpenSpec.ofChange linePoisonSpec)

/-- ITS FALSE NEIGHBOUR: 'it returns false'. Refute it at one input. -/
def linePoisonWrong : ChangeSpec := { name := "linePoison", fn := fun _ => fun
  | [d1, d2, d3] => { results := [.lit (.bool false)], args := [d1, d2, d3] }
  | _ => none }
def LinePoisonWrongFalsely : Prop := linePoisonRow.holds Tryd.pinned (OpenSpec.ofChange linePoisonWrong)

/- THE SECOND FORM. 'bulk': how many values and letters a reading holds, each counted each time it is reached (what is shared counts as often as it is met; a slice's spare places count too). A statement '..UptoSaid' is the law's where the arguments, and the package variables that the reading takes, are together of bulk at most 1048576: NARROWER than '..Said'. Prove '..Said' where nothing that the law and all that it calls make is longer than what came in: it says more and counts as full. Else prove '..UptoSaid'. A law counts once. -/
mutual
def uptoBulk {H : Type} : DataW H → Nat
  | .lit (.string bytes) => bytes.length + 1
  | .lit _ => 1
  | .nil => 1
  | .ptr d => uptoBulk d + 1
  | .slice elems spare => uptoBulkAll elems + uptoBulkAll spare + 1
  | .agg parts => uptoBulkAll parts + 1
  | .iface _ d => uptoBulk d + 1
  | .map entries => uptoBulkEntries entries + 1
  | .held _ => 1
def uptoBulkAll {H : Type} : List (DataW H) → Nat
  | [] => 0
  | d :: r => uptoBulk d + uptoBulkAll r
def uptoBulkEntries {H : Type} : List (Lit × DataW H) → Nat
  | [] => 0
  | x :: r => uptoBulkEntry x + uptoBulkEntries r
def uptoBulkEntry {H : Type} : Lit × DataW H → Nat
  | (.string bytes, d) => bytes.length + uptoBulk d + 1
  | (_, d) => uptoBulk d + 1
 end
def uptoSmall : (H : Type) → List (DataW H) → Bool := fun _ ds => decide (uptoBulkAll ds ≤ 1048576)
def OpenSpec.upto (s : _root_.Go.ChangeSpec) : _root_.Go.OpenSpec := { _root_.Go.OpenSpec.ofChange s with cond := some uptoSmall }

/-- 'waywardenlaw2.DistTells', WHERE WHAT IT READS IS OF BULK AT MOST 1048576: true; the input reads as it did. -/
def distTellsUptoRow : OpenClaim := { program := "ytjbilhpdnmgljaadoor", sum := "64e6bbc1b2b941a2ba6c83c9240da62286e6cef51e6880c71e88feb85e986cba", func := "waywarden/waywardenlaw2.DistTells", spec := "distTells", inPlace := ["internal/reflectlite.ValueOf", "(internal/reflectlite.Value).Type", "(internal/reflectlite.Value).IsNil", "internal/reflectlite.TypeOf", "(internal/reflectlite.Value).Elem", "(internal/reflectlite.Value).Set"], unfollowed := true, recurses := true, named := ["errors.errorType"], plainKeys := false, apart := false, laid := [("errors.errorType", laid_errors_errorType)], narrowed := true }
def DistTellsUptoSaid : Prop := distTellsUptoRow.holds Tryd.pinned (OpenSpec.upto distTellsSpec)

/-- 'waywardenlaw4.TraceTells', WHERE WHAT IT READS IS OF BULK AT MOST 1048576: true; the input reads as it did. -/
def traceTellsUptoRow : OpenClaim := { program := "ytjbilhpdnmgljaadoor", sum := "64e6bbc1b2b941a2ba6c83c9240da62286e6cef51e6880c71e88feb85e986cba", func := "waywarden/waywardenlaw4.TraceTells", spec := "traceTells", inPlace := ["internal/reflectlite.ValueOf", "(internal/reflectlite.Value).Type", "(internal/reflectlite.Value).IsNil", "internal/reflectlite.TypeOf", "(internal/reflectlite.Value).Elem", "(internal/reflectlite.Value).Set"], unfollowed := true, recurses := true, named := ["errors.errorType"], plainKeys := false, apart := false, laid := [("errors.errorType", laid_errors_errorType)], narrowed := true }
def TraceTellsUptoSaid : Prop := traceTellsUptoRow.holds Tryd.pinned (OpenSpec.upto traceTellsSpec)

/-- 'waywardenlaw4.TraceShort', WHERE WHAT IT READS IS OF BULK AT MOST 1048576: true; the input reads as it did. -/
def traceShortUptoRow : OpenClaim := { program := "ytjbilhpdnmgljaadoor", sum := "64e6bbc1b2b941a2ba6c83c9240da62286e6cef51e6880c71e88feb85e986cba", func := "waywarden/waywardenlaw4.TraceShort", spec := "traceShort", inPlace := ["internal/reflectlite.ValueOf", "(internal/reflectlite.Value).Type", "(internal/reflectlite.Value).IsNil", "internal/reflectlite.TypeOf", "(internal/reflectlite.Value).Elem", "(internal/reflectlite.Value).Set"], unfollowed := true, recurses := true, named := ["errors.errorType"], plainKeys := false, apart := false, laid := [("errors.errorType", laid_errors_errorType)], narrowed := true }
def TraceShortUptoSaid : Prop := traceShortUptoRow.holds Tryd.pinned (OpenSpec.upto traceShortSpec)

/-- 'waywardenlaw4.DampTells', WHERE WHAT IT READS IS OF BULK AT MOST 1048576: true; the input reads as it did. -/
def dampTellsUptoRow : OpenClaim := { program := "ytjbilhpdnmgljaadoor", sum := "64e6bbc1b2b941a2ba6c83c9240da62286e6cef51e6880c71e88feb85e986cba", func := "waywarden/waywardenlaw4.DampTells", spec := "dampTells", inPlace := ["internal/reflectlite.ValueOf", "(internal/reflectlite.Value).Type", "(internal/reflectlite.Value).IsNil", "internal/reflectlite.TypeOf", "(internal/reflectlite.Value).Elem", "(internal/reflectlite.Value).Set"], unfollowed := true, recurses := true, named := ["errors.errorType"], plainKeys := false, apart := false, laid := [("errors.errorType", laid_errors_errorType)], narrowed := true }
def DampTellsUptoSaid : Prop := dampTellsUptoRow.holds Tryd.pinned (OpenSpec.upto dampTellsSpec)

/-- 'waywardentop.TopFar', WHERE WHAT IT READS IS OF BULK AT MOST 1048576: true; the input reads as it did. -/
def topFarUptoRow : OpenClaim := { program := "ytjbilhpdnmgljaadoor", sum := "64e6bbc1b2b941a2ba6c83c9240da62286e6cef51e6880c71e88feb85e986cba", func := "waywarden/waywardentop.TopFar", spec := "topFar", unfollowed := true, recurses := true, named := ["waywarden/line.nobody"], plainKeys := false, apart := false, laid := [("waywarden/line.nobody", laid_waywarden_line_nobody)], narrowed := true }
def TopFarUptoSaid : Prop := topFarUptoRow.holds Tryd.pinned (OpenSpec.upto topFarSpec)

/-- 'waywardenlaw4.LoopTells', WHERE WHAT IT READS IS OF BULK AT MOST 1048576: true; the input reads as it did. -/
def loopTellsUptoRow : OpenClaim := { program := "ytjbilhpdnmgljaadoor", sum := "64e6bbc1b2b941a2ba6c83c9240da62286e6cef51e6880c71e88feb85e986cba", func := "waywarden/waywardenlaw4.LoopTells", spec := "loopTells", inPlace := ["internal/reflectlite.ValueOf", "(internal/reflectlite.Value).Type", "(internal/reflectlite.Value).IsNil", "internal/reflectlite.TypeOf", "(internal/reflectlite.Value).Elem", "(internal/reflectlite.Value).Set"], unfollowed := true, recurses := true, named := ["errors.errorType"], plainKeys := false, apart := false, laid := [("errors.errorType", laid_errors_errorType)], narrowed := true }
def LoopTellsUptoSaid : Prop := loopTellsUptoRow.holds Tryd.pinned (OpenSpec.upto loopTellsSpec)

/-- 'waywardenlaw4.LoopStays', WHERE WHAT IT READS IS OF BULK AT MOST 1048576: true; the input reads as it did. -/
def loopStaysUptoRow : OpenClaim := { program := "ytjbilhpdnmgljaadoor", sum := "64e6bbc1b2b941a2ba6c83c9240da62286e6cef51e6880c71e88feb85e986cba", func := "waywarden/waywardenlaw4.LoopStays", spec := "loopStays", inPlace := ["internal/reflectlite.ValueOf", "(internal/reflectlite.Value).Type", "(internal/reflectlite.Value).IsNil", "internal/reflectlite.TypeOf", "(internal/reflectlite.Value).Elem", "(internal/reflectlite.Value).Set"], unfollowed := true, recurses := true, named := ["errors.errorType"], plainKeys := false, apart := false, laid := [("errors.errorType", laid_errors_errorType)], narrowed := true }
def LoopStaysUptoSaid : Prop := loopStaysUptoRow.holds Tryd.pinned (OpenSpec.upto loopStaysSpec)

/-- 'waywardenlaw4.LinePoison', WHERE WHAT IT READS IS OF BULK AT MOST 1048576: true; the input reads as it did. -/
def linePoisonUptoRow : OpenClaim := { program := "ytjbilhpdnmgljaadoor", sum := "64e6bbc1b2b941a2ba6c83c9240da62286e6cef51e6880c71e88feb85e986cba", func := "waywarden/waywardenlaw4.LinePoison", spec := "linePoison", unfollowed := true, recurses := true, named := ["waywarden/line.nobody"], plainKeys := false, apart := false, laid := [("waywarden/line.nobody", laid_waywarden_line_nobody)], narrowed := true }
def LinePoisonUptoSaid : Prop := linePoisonUptoRow.holds Tryd.pinned (OpenSpec.upto linePoisonSpec)

end Rows
end Go.Proofs.YtjbilhpdnmgljaaDoor

/-
  NARROWER THAN 'FOR EVERY INPUT', by the rows' own cells (each row's printed sentence says how): LinePoison: laid · LineSettles: laid · LineCounts: laid · SpfTells: laid · LineTells: laid · TraceArrives: laid.
  DERIVED. THE GIVEN ROWS OF THIS SEAT. 6 by the template 'for every input the law returns true; each argument reads behind the call as it read before'; 0 by the template 'total and deterministic' (their statements: YtbepfmcaolmhgaaDoorTotals.lean).
  GIVEN WITH THE SEED: the statements are not yours to turn. If you find one false, say at which input.
  Laid BY PROGRAM, IN A SANDBOX (cutbox-rows.mjs): the forced cells as the released guide's own fill.sh prints them over the translation 9124be9d6df4ebe2… (all of the seat's roots in one cut). By AI agents, Wed Nov 11 2026. No macro, syntax, notation, axiom, sorry.
-/
import Derived.Test.YtbepfmcaolmhgaaDoorChecked
import GoSem.Claim
import GoSem.ClaimJoined
import GoSem.ClaimMapViews
import Derived.JoinedTies
import Derived.KernelRfl
namespace Go.Proofs.YtbepfmcaolmhgaaDoor
/- THE CELL 'sum', in the pinned program and in every row, IS THE sha256 OF THE DUMP (.gsa) THAT YtbepfmcaolmhgaaDoorProg.lean LOADS. Nothing in Lean hashes anything: it is a label: what it is worth is what the hold of that sum in a sandbox is worth. -/
noncomputable def Tryd.pinned : Pinned := { name := "ytbepfmcaolmhgaadoor", sum := "9124be9d6df4ebe2626a7ecf446ce31fe12d4ffad468a567a31f244c0e3a69e3", checked := Tryd.checked }
namespace Rows
def none {H : Type} : Left H := { results := [], args := [] }

/- WHAT THE LISTED PACKAGE-LEVEL VARIABLES READ AS WHEN THE CALL BEGINS. Each datum BY PROGRAM (the guide's laid-datum.mjs) off the statement by which the dump's own 'gosem.cut.vars' lays the variable. In a bare row this is a premise. The card (YtbepfmcaolmhgaaDoorCards.lean) ties it to the program's text. -/
def laid_waywarden_line_nobody {H : Type} : DataW H := .agg [.lit (.int .i64 16), .lit (.int .i64 (-1))]
def laid_errors_errorType {H : Type} : DataW H := .iface "internal/reflectlite.rtype" (.agg [.ptr (.lit (.string [101, 114, 114, 111, 114]))])

/-- 'waywardenlaw4.LinePoison': WHATEVER THE INPUT: true; the input reads as it did. -/
def linePoisonSpec : ChangeSpec := { name := "linePoison", fn := fun _ => fun
  | [d1, d2, d3] => { results := [.lit (.bool true)], args := [d1, d2, d3] }
  | _ => none }
def linePoisonRow : OpenClaim := { program := "ytbepfmcaolmhgaadoor", sum := "9124be9d6df4ebe2626a7ecf446ce31fe12d4ffad468a567a31f244c0e3a69e3", func := "waywarden/waywardenlaw4.LinePoison", spec := "linePoison", unfollowed := true, recurses := true, named := ["waywarden/line.nobody"], plainKeys := false, apart := false, laid := [("waywarden/line.nobody", laid_waywarden_line_nobody)] }
def LinePoisonSaid : Prop := linePoisonRow.holds Tryd.pinned (OpenSpec.ofChange linePoisonSpec)

/-- ITS FALSE NEIGHBOUR: 'it returns false'. Refute it at one input. -/
def linePoisonWrong : ChangeSpec := { name := "linePoison", fn := fun _ => fun
  | [d1, d2, d3] => { results := [.lit (.bool false)], args := [d1, d2, d3] }
  | _ => none }
def LinePoisonWrongFalsely : Prop := linePoisonRow.holds Tryd.pinned (OpenSpec.ofChange linePoisonWrong)

/-- 'waywardenlaw4.LineSettles': WHATEVER THE INPUT: true; the input reads as it did. -/
def lineSettlesSpec : ChangeSpec := { name := "lineSettles", fn := fun _ => fun
  | [d1, d2, d3, d4] => { results := [.lit (.bool true)], args := [d1, d2, d3, d4] }
  | _ => none }
def lineSettlesRow : OpenClaim := { program := "ytbepfmcaolmhgaadoor", sum := "9124be9d6df4ebe2626a7ecf446ce31fe12d4ffad468a567a31f244c0e3a69e3", func := "waywarden/waywardenlaw4.LineSettles", spec := "lineSettles", unfollowed := true, recurses := true, named := ["waywarden/line.nobody"], plainKeys := false, apart := false, laid := [("waywarden/line.nobody", laid_waywarden_line_nobody)] }
def LineSettlesSaid : Prop := lineSettlesRow.holds Tryd.pinned (OpenSpec.ofChange lineSettlesSpec)

/-- ITS FALSE NEIGHBOUR: 'it returns false'. Refute it at one input. -/
def lineSettlesWrong : ChangeSpec := { name := "lineSettles", fn := fun _ => fun
  | [d1, d2, d3, d4] => { results := [.lit (.bool false)], args := [d1, d2, d3, d4] }
  | _ => none }
def LineSettlesWrongFalsely : Prop := lineSettlesRow.holds Tryd.pinned (OpenSpec.ofChange lineSettlesWrong)

/-- 'waywardenlaw4.LineCounts': WHATEVER THE INPUT: true; the input reads as it did. -/
def lineCountsSpec : ChangeSpec := { name := "lineCounts", fn := fun _ => fun
  | [d1, d2, d3, d4] => { results := [.lit (.bool true)], args := [d1, d2, d3, d4] }
  | _ => none }
def lineCountsRow : OpenClaim := { program := "ytbepfmcaolmhgaadoor", sum := "9124be9d6df4ebe2626a7ecf446ce31fe12d4ffad468a567a31f244c0e3a69e3", func := "waywarden/waywardenlaw4.LineCounts", spec := "lineCounts", unfollowed := true, recurses := true, named := ["waywarden/line.nobody"], plainKeys := false, apart := false, laid := [("waywarden/line.nobody", laid_waywarden_line_nobody)] }
def LineCountsSaid : Prop := lineCountsRow.holds Tryd.pinned (OpenSpec.ofChange lineCountsSpec)

/-- ITS FALSE NEIGHBOUR: 'it returns false'. Refute it at one input. -/
def lineCountsWrong : ChangeSpec := { name := "lineCounts", fn := fun _ => fun
  | [d1, d2, d3, d4] => { results := [.lit (.bool false)], args := [d1, d2, d3, d4] }
  | _ => none }
def LineCountsWrongFalsely : Prop := lineCountsRow.holds Tryd.pinned (OpenSpec.ofChange lineCountsWrong)

/-- 'waywardenlaw2.SpfTells': WHATEVER THE INPUT: true; the input reads as it did. -/
def spfTellsSpec : ChangeSpec := { name := "spfTells", fn := fun _ => fun
  | [d1, d2, d3] => { results := [.lit (.bool true)], args := [d1, d2, d3] }
  | _ => none }
def spfTellsRow : OpenClaim := { program := "ytbepfmcaolmhgaadoor", sum := "9124be9d6df4ebe2626a7ecf446ce31fe12d4ffad468a567a31f244c0e3a69e3", func := "waywarden/waywardenlaw2.SpfTells", spec := "spfTells", inPlace := ["internal/reflectlite.ValueOf", "(internal/reflectlite.Value).Type", "(internal/reflectlite.Value).IsNil", "internal/reflectlite.TypeOf", "(internal/reflectlite.Value).Elem", "(internal/reflectlite.Value).Set"], unfollowed := true, recurses := true, named := ["errors.errorType"], plainKeys := false, apart := false, laid := [("errors.errorType", laid_errors_errorType)] }
def SpfTellsSaid : Prop := spfTellsRow.holds Tryd.pinned (OpenSpec.ofChange spfTellsSpec)

/-- ITS FALSE NEIGHBOUR: 'it returns false'. Refute it at one input. -/
def spfTellsWrong : ChangeSpec := { name := "spfTells", fn := fun _ => fun
  | [d1, d2, d3] => { results := [.lit (.bool false)], args := [d1, d2, d3] }
  | _ => none }
def SpfTellsWrongFalsely : Prop := spfTellsRow.holds Tryd.pinned (OpenSpec.ofChange spfTellsWrong)

/-- 'waywardenlaw4.LineTells': WHATEVER THE INPUT: true; the input reads as it did. -/
def lineTellsSpec : ChangeSpec := { name := "lineTells", fn := fun _ => fun
  | [d1, d2, d3, d4] => { results := [.lit (.bool true)], args := [d1, d2, d3, d4] }
  | _ => none }
def lineTellsRow : OpenClaim := { program := "ytbepfmcaolmhgaadoor", sum := "9124be9d6df4ebe2626a7ecf446ce31fe12d4ffad468a567a31f244c0e3a69e3", func := "waywarden/waywardenlaw4.LineTells", spec := "lineTells", inPlace := ["internal/reflectlite.ValueOf", "(internal/reflectlite.Value).Type", "(internal/reflectlite.Value).IsNil", "internal/reflectlite.TypeOf", "(internal/reflectlite.Value).Elem", "(internal/reflectlite.Value).Set"], unfollowed := true, recurses := true, named := ["waywarden/line.nobody", "errors.errorType"], plainKeys := false, apart := false, laid := [("errors.errorType", laid_errors_errorType), ("waywarden/line.nobody", laid_waywarden_line_nobody)] }
def LineTellsSaid : Prop := lineTellsRow.holds Tryd.pinned (OpenSpec.ofChange lineTellsSpec)

/-- ITS FALSE NEIGHBOUR: 'it returns false'. Refute it at one input. -/
def lineTellsWrong : ChangeSpec := { name := "lineTells", fn := fun _ => fun
  | [d1, d2, d3, d4] => { results := [.lit (.bool false)], args := [d1, d2, d3, d4] }
  | _ => none }
def LineTellsWrongFalsely : Prop := lineTellsRow.holds Tryd.pinned (OpenSpec.ofChange lineTellsWrong)

/-- 'waywardenlaw4.TraceArrives': WHATEVER THE INPUT: true; the input reads as it did. -/
def traceArrivesSpec : ChangeSpec := { name := "traceArrives", fn := fun _ => fun
  | [d1, d2, d3, d4] => { results := [.lit (.bool true)], args := [d1, d2, d3, d4] }
  | _ => none }
def traceArrivesRow : OpenClaim := { program := "ytbepfmcaolmhgaadoor", sum := "9124be9d6df4ebe2626a7ecf446ce31fe12d4ffad468a567a31f244c0e3a69e3", func := "waywarden/waywardenlaw4.TraceArrives", spec := "traceArrives", inPlace := ["internal/reflectlite.ValueOf", "(internal/reflectlite.Value).Type", "(internal/reflectlite.Value).IsNil", "internal/reflectlite.TypeOf", "(internal/reflectlite.Value).Elem", "(internal/reflectlite.Value).Set"], unfollowed := true, recurses := true, named := ["waywarden/line.nobody", "errors.errorType"], plainKeys := false, apart := false, laid := [("errors.errorType", laid_errors_errorType), ("waywarden/line.nobody", laid_waywarden_line_nobody)] }
def TraceArrivesSaid : Prop := traceArrivesRow.holds Tryd.pinned (OpenSpec.ofChange traceArrivesSpec)

/-- ITS FALSE NEIGHBOUR: 'it returns false'. Refute it at one input. -/
def traceArrivesWrong : ChangeSpec := { name := "traceArrives", fn := fun _ => fun
  | [d1, d2, d3, d4] => { results := [.lit (.bool false)], args := [d1, d2, d3, d4] }
  | _ => none }
def TraceArrivesWrongFalsely : Prop := traceArrivesRow.holds Tryd.pinned (OpenSpec.ofChange traceArrivesWrong)

/- THE SECOND FORM. 'bulk': how many values and letters a reading holds, each counted each time it is reached (what is shared counts as often as it is met; a slice's spare places count too). A statement '..UptoSaid' is the law's where the arguments, and the package variables that the reading takes, are together of bulk at most 1048576: NARROWER than '..Said'. Prove '..Said' where nothing that the law and all that it calls make is longer than what came in: it says more and counts as full. Else prove '..UptoSaid'. A law counts once. -/
mutual
def uptoBulk {H : Type} : DataW H → Nat
  | .lit (.string bytes) => bytes.length + 1
  | .lit _ => 1
  | .nil => 1
  | .ptr d => uptoBulk d + 1
  | .slice elems spare => uptoBulkAll elems + uptoBulkAll spare + 1
  | .agg parts => uptoBulkAll parts + 1
  | .iface _ d => uptoBulk d + 1
  | .map entries => uptoBulkEntries entries + 1
  | .held _ => 1
def uptoBulkAll {H : Type} : List (DataW H) → Nat
  | [] => 0
  | d :: r => uptoBulk d + uptoBulkAll r
def uptoBulkEntries {H : Type} : List (Lit × DataW H) → Nat
  | [] => 0
  | x :: r => uptoBulkEntry x + uptoBulkEntries r
def uptoBulkEntry {H : Type} : Lit × DataW H → Nat
  | (.string bytes, d) => bytes.length + uptoBulk d + 1
  | (_, d) => uptoBulk d + 1
 end
def uptoSmall : (H : Type) → List (DataW H) → Bool := fun _ ds => decide (uptoBulkAll ds ≤ 1048576)
def OpenSpec.upto (s : _root_.Go.ChangeSpec) : _root_.Go.OpenSpec := { _root_.Go.OpenSpec.ofChange s with cond := some uptoSmall }

/-- 'waywardenlaw4.LinePoison', WHERE WHAT IT READS IS OF BULK AT MOST 1048576: true; the input reads as it did. -/
def linePoisonUptoRow : OpenClaim := { program := "ytbepfmcaolmhgaadoor", sum := "9124be9d6df4ebe2626a7ecf446ce31fe12d4ffad468a567a31f244c0e3a69e3", func := "waywarden/waywardenlaw4.LinePoison", spec := "linePoison", unfollowed := true, recurses := true, named := ["waywarden/line.nobody"], plainKeys := false, apart := false, laid := [("waywarden/line.nobody", laid_waywarden_line_nobody)], narrowed := true }
def LinePoisonUptoSaid : Prop := linePoisonUptoRow.holds Tryd.pinned (OpenSpec.upto linePoisonSpec)

/-- 'waywardenlaw4.LineSettles', WHERE WHAT IT READS IS OF BULK AT MOST 1048576: true; the input reads as it did. -/
def lineSettlesUptoRow : OpenClaim := { program := "ytbepfmcaolmhgaadoor", sum := "9124be9d6df4ebe2626a7ecf446ce31fe12d4ffad468a567a31f244c0e3a69e3", func := "waywarden/waywardenlaw4.LineSettles", spec := "lineSettles", unfollowed := true, recurses := true, named := ["waywarden/line.nobody"], plainKeys := false, apart := false, laid := [("waywarden/line.nobody", laid_waywarden_line_nobody)], narrowed := true }
def LineSettlesUptoSaid : Prop := lineSettlesUptoRow.holds Tryd.pinned (OpenSpec.upto lineSettlesSpec)

/-- 'waywardenlaw4.LineCounts', WHERE WHAT IT READS IS OF BULK AT MOST 1048576: true; the input reads as it did. -/
def lineCountsUptoRow : OpenClaim := { program := "ytbepfmcaolmhgaadoor", sum := "9124be9d6df4ebe2626a7ecf446ce31fe12d4ffad468a567a31f244c0e3a69e3", func := "waywarden/waywardenlaw4.LineCounts", spec := "lineCounts", unfollowed := true, recurses := true, named := ["waywarden/line.nobody"], plainKeys := false, apart := false, laid := [("waywarden/line.nobody", laid_waywarden_line_nobody)], narrowed := true }
def LineCountsUptoSaid : Prop := lineCountsUptoRow.holds Tryd.pinned (OpenSpec.upto lineCountsSpec)

/-- 'waywardenlaw2.SpfTells', WHERE WHAT IT READS IS OF BULK AT MOST 1048576: true; the input reads as it did. -/
def spfTellsUptoRow : OpenClaim := { program := "ytbepfmcaolmhgaadoor", sum := "9124be9d6df4ebe2626a7ecf446ce31fe12d4ffad468a567a31f244c0e3a69e3", func := "waywarden/waywardenlaw2.SpfTells", spec := "spfTells", inPlace := ["internal/reflectlite.ValueOf", "(internal/reflectlite.Value).Type", "(internal/reflectlite.Value).IsNil", "internal/reflectlite.TypeOf", "(internal/reflectlite.Value).Elem", "(internal/reflectlite.Value).Set"], unfollowed := true, recurses := true, named := ["errors.errorType"], plainKeys := false, apart := false, laid := [("errors.errorType", laid_errors_errorType)], narrowed := true }
def SpfTellsUptoSaid : Prop := spfTellsUptoRow.holds Tryd.pinned (OpenSpec.upto spfTellsSpec)

/-- 'waywardenlaw4.LineTells', WHERE WHAT IT READS IS OF BULK AT MOST 1048576: true; the input reads as it did. -/
def lineTellsUptoRow : OpenClaim := { program := "ytbepfmcaolmhgaadoor", sum := "9124be9d6df4ebe2626a7ecf446ce31fe12d4ffad468a567a31f244c0e3a69e3", func := "waywarden/waywardenlaw4.LineTells", spec := "lineTells", inPlace := ["internal/reflectlite.ValueOf", "(internal/reflectlite.Value).Type", "(internal/reflectlite.Value).IsNil", "internal/reflectlite.TypeOf", "(internal/reflectlite.Value).Elem", "(internal/reflectlite.Value).Set"], unfollowed := true, recurses := true, named := ["waywarden/line.nobody", "errors.errorType"], plainKeys := false, apart := false, laid := [("errors.errorType", laid_errors_errorType), ("waywarden/line.nobody", laid_waywarden_line_nobody)], narrowed := true }
def LineTellsUptoSaid : Prop := lineTellsUptoRow.holds Tryd.pinned (OpenSpec.upto lineTellsSpec)

/-- 'waywardenlaw4.TraceArrives', WHERE WHAT IT READS IS OF BULK AT MOST 1048576: true; the input reads as it did. -/
def traceArrivesUptoRow : OpenClaim := { program := "ytbepfmcaolmhgaadoor", sum := "9124be9d6df4ebe2626a7ecf446ce31fe12d4ffad468a567a31f244c0e3a69e3", func := "waywarden/waywardenlaw4.TraceArrives", spec := "traceArrives", inPlace := ["internal/reflectlite.ValueOf", "(internal/reflectlite.Value).Type", "(internal/reflectlite.Value).IsNil", "internal/reflectlite.TypeOf", "(internal/reflectlite.Value).Elem", "(internal/reflectlite.Value).Set"], unfollowed := true, recurses := true, named := ["waywarden/line.nobody", "errors.errorType"], plainKeys := false, apart := false, laid := [("errors.errorType", laid_errors_errorType), ("waywarden/line.nobody", laid_waywarden_line_nobody)], narrowed := true }
def TraceArrivesUptoSaid : Prop := traceArrivesUptoRow.holds Tryd.pinned (OpenSpec.upto traceArrivesSpec)

end Rows
end Go.Proofs.YtbepfmcaolmhgaaDoor

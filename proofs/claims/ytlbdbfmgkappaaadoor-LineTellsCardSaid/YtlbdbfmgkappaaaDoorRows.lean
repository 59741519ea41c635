/-
  NARROWER THAN 'FOR EVERY INPUT', by the rows' own cells (each row's printed sentence says how): TopFar: laid · AsyncTells: laid · LineTells: laid.
  DERIVED. THE GIVEN ROWS OF THIS SEAT. 3 by the template 'for every input the law returns true; each argument reads behind the call as it read before'; 0 by the template 'total and deterministic' (their statements: YtlbdbfmgkappaaaDoorTotals.lean).
  GIVEN WITH THE SEED: the statements are not yours to turn. If you find one false, say at which input.
  Laid BY PROGRAM, IN A SANDBOX (cutbox-rows.mjs): the forced cells as the released guide's own fill.sh prints them over the translation f6b7560be47ad5e6… (all of the seat's roots in one cut). By AI agents, Wed Nov 11 2026. No macro, syntax, notation, axiom, sorry.
-/
import Derived.Test.YtlbdbfmgkappaaaDoorChecked
import GoSem.Claim
import GoSem.ClaimJoined
import GoSem.ClaimMapViews
import Derived.JoinedTies
import Derived.KernelRfl
namespace Go.Proofs.YtlbdbfmgkappaaaDoor
/- THE CELL 'sum', in the pinned program and in every row, IS THE sha256 OF THE DUMP (.gsa) THAT YtlbdbfmgkappaaaDoorProg.lean LOADS. Nothing in Lean hashes anything: it is a label: what it is worth is what the hold of that sum in a sandbox is worth. -/
noncomputable def Tryd.pinned : Pinned := { name := "ytlbdbfmgkappaaadoor", sum := "f6b7560be47ad5e6abce019db94129d534a67dd02219020d8d376df44d0a8956", checked := Tryd.checked }
namespace Rows
def none {H : Type} : Left H := { results := [], args := [] }

/- WHAT THE LISTED PACKAGE-LEVEL VARIABLES READ AS WHEN THE CALL BEGINS. Each datum BY PROGRAM (the guide's laid-datum.mjs) off the statement by which the dump's own 'gosem.cut.vars' lays the variable. In a bare row this is a premise. The card (YtlbdbfmgkappaaaDoorCards.lean) ties it to the program's text. -/
def laid_waywarden_line_nobody {H : Type} : DataW H := .agg [.lit (.int .i64 16), .lit (.int .i64 (-1))]
def laid_errors_errorType {H : Type} : DataW H := .iface "internal/reflectlite.rtype" (.agg [.ptr (.lit (.string [101, 114, 114, 111, 114]))])

/-- 'waywardentop.TopFar': WHATEVER THE INPUT: true; the input reads as it did. -/
def topFarSpec : ChangeSpec := { name := "topFar", fn := fun _ => fun
  | [d1, d2, d3] => { results := [.lit (.bool true)], args := [d1, d2, d3] }
  | _ => none }
def topFarRow : OpenClaim := { program := "ytlbdbfmgkappaaadoor", sum := "f6b7560be47ad5e6abce019db94129d534a67dd02219020d8d376df44d0a8956", func := "waywarden/waywardentop.TopFar", spec := "topFar", unfollowed := true, recurses := true, named := ["waywarden/line.nobody"], plainKeys := false, apart := false, laid := [("waywarden/line.nobody", laid_waywarden_line_nobody)] }
def TopFarSaid : Prop := topFarRow.holds Tryd.pinned (OpenSpec.ofChange topFarSpec)

/-- ITS FALSE NEIGHBOUR: 'it returns false'. Refute it at one input. -/
def topFarWrong : ChangeSpec := { name := "topFar", fn := fun _ => fun
  | [d1, d2, d3] => { results := [.lit (.bool false)], args := [d1, d2, d3] }
  | _ => none }
def TopFarWrongFalsely : Prop := topFarRow.holds Tryd.pinned (OpenSpec.ofChange topFarWrong)

/-- 'waywardenlaw4.AsyncTells': WHATEVER THE INPUT: true; the input reads as it did. -/
def asyncTellsSpec : ChangeSpec := { name := "asyncTells", fn := fun _ => fun
  | [d1, d2, d3, d4, d5, d6] => { results := [.lit (.bool true)], args := [d1, d2, d3, d4, d5, d6] }
  | _ => none }
def asyncTellsRow : OpenClaim := { program := "ytlbdbfmgkappaaadoor", sum := "f6b7560be47ad5e6abce019db94129d534a67dd02219020d8d376df44d0a8956", func := "waywarden/waywardenlaw4.AsyncTells", spec := "asyncTells", inPlace := ["internal/reflectlite.ValueOf", "(internal/reflectlite.Value).Type", "(internal/reflectlite.Value).IsNil", "internal/reflectlite.TypeOf", "(internal/reflectlite.Value).Elem", "(internal/reflectlite.Value).Set"], unfollowed := true, recurses := true, named := ["errors.errorType"], plainKeys := false, apart := false, laid := [("errors.errorType", laid_errors_errorType)] }
def AsyncTellsSaid : Prop := asyncTellsRow.holds Tryd.pinned (OpenSpec.ofChange asyncTellsSpec)

/-- ITS FALSE NEIGHBOUR: 'it returns false'. Refute it at one input. -/
def asyncTellsWrong : ChangeSpec := { name := "asyncTells", fn := fun _ => fun
  | [d1, d2, d3, d4, d5, d6] => { results := [.lit (.bool false)], args := [d1, d2, d3, d4, d5, d6] }
  | _ => none }
def AsyncTellsWrongFalsely : Prop := asyncTellsRow.holds Tryd.pinned (OpenSpec.ofChange asyncTellsWrong)

/-- 'waywardenlaw4.LineTells': WHATEVER THE INPUT: true; the input reads as it did. -/
def lineTellsSpec : ChangeSpec := { name := "lineTells", fn := fun _ => fun
  | [d1, d2, d3, d4] => { results := [.lit (.bool true)], args := [d1, d2, d3, d4] }
  | _ => none }
def lineTellsRow : OpenClaim := { program := "ytlbdbfmgkappaaadoor", sum := "f6b7560be47ad5e6abce019db94129d534a67dd02219020d8d376df44d0a8956", func := "waywarden/waywardenlaw4.LineTells", spec := "lineTells", inPlace := ["internal/reflectlite.ValueOf", "(internal/reflectlite.Value).Type", "(internal/reflectlite.Value).IsNil", "internal/reflectlite.TypeOf", "(internal/reflectlite.Value).Elem", "(internal/reflectlite.Value).Set"], unfollowed := true, recurses := true, named := ["waywarden/line.nobody", "errors.errorType"], plainKeys := false, apart := false, laid := [("errors.errorType", laid_errors_errorType), ("waywarden/line.nobody", laid_waywarden_line_nobody)] }
def LineTellsSaid : Prop := lineTellsRow.holds Tryd.pinned (OpenSpec.ofChange lineTellsSpec)

/-- ITS FALSE NEIGHBOUR: 'it returns false'. Refute it at one input. -/
def lineTellsWrong : ChangeSpec := { name := "lineTells", fn := fun _ => fun
  | [d1, d2, d3, d4] => { results := [.lit (.bool false)], args := [d1, d2, d3, d4] }
  | _ => none }
def LineTellsWrongFalsely : Prop := lineTellsRow.holds Tryd.pinned (OpenSpec.ofChange lineTellsWrong)

/- THE SECOND FORM. 'bulk': how many values and letters a reading holds, each counted each time it is reached (what is shared counts as often as it is met; a slice's spare places count too). A statement '..UptoSaid' is the law's where the arguments, and the package variables that the reading takes, are together of bulk at most 1048576: NARROWER than '..Said'. Prove '..Said' where nothing that the law and all that it calls make is longer than what came in: it says more and counts as full. Else prove '..UptoSaid'. A law counts once. -/
mutual
def uptoBulk {H : Type} : DataW H → Nat
  | .lit (.string bytes) => bytes.length + 1
  | .lit _ => 1
  | .nil => 1
  | .ptr d => uptoBulk d + 1
  | .slice elems spare => uptoBulkAll elems + uptoBulkAll spare + 1
  | .agg parts => uptoBulkAll parts + 1
  | .iface _ d => uptoBulk d + 1
  | .map entries => uptoBulkEntries entries + 1
  | .held _ => 1
def uptoBulkAll {H : Type} : List (DataW H) → Nat
  | [] => 0
  | d :: r => uptoBulk d + uptoBulkAll r
def uptoBulkEntries {H : Type} : List (Lit × DataW H) → Nat
  | [] => 0
  | x :: r => uptoBulkEntry x + uptoBulkEntries r
def uptoBulkEntry {H : Type} : Lit × DataW H → Nat
  | (.string bytes, d) => bytes.length + uptoBulk d + 1
  | (_, d) => uptoBulk d + 1
 end
def uptoSmall : (H : Type) → List (DataW H) → Bool := fun _ ds => decide (uptoBulkAll ds ≤ 1048576)
def OpenSpec.upto (s : _root_.Go.ChangeSpec) : _root_.Go.OpenSpec := { _root_.Go.OpenSpec.ofChange s with cond := some uptoSmall }

/-- 'waywardentop.TopFar', WHERE WHAT IT READS IS OF BULK AT MOST 1048576: true; the input reads as it did. -/
def topFarUptoRow : OpenClaim := { program := "ytlbdbfmgkappaaadoor", sum := "f6b7560be47ad5e6abce019db94129d534a67dd02219020d8d376df44d0a8956", func := "waywarden/waywardentop.TopFar", spec := "topFar", unfollowed := true, recurses := true, named := ["waywarden/line.nobody"], plainKeys := false, apart := false, laid := [("waywarden/line.nobody", laid_waywarden_line_nobody)], narrowed := true }
def TopFarUptoSaid : Prop := topFarUptoRow.holds Tryd.pinned (OpenSpec.upto topFarSpec)

/-- 'waywardenlaw4.AsyncTells', WHERE WHAT IT READS IS OF BULK AT MOST 1048576: true; the input reads as it did. -/
def asyncTellsUptoRow : OpenClaim := { program := "ytlbdbfmgkappaaadoor", sum := "f6b7560be47ad5e6abce019db94129d534a67dd02219020d8d376df44d0a8956", func := "waywarden/waywardenlaw4.AsyncTells", spec := "asyncTells", inPlace := ["internal/reflectlite.ValueOf", "(internal/reflectlite.Value).Type", "(internal/reflectlite.Value).IsNil", "internal/reflectlite.TypeOf", "(internal/reflectlite.Value).Elem", "(internal/reflectlite.Value).Set"], unfollowed := true, recurses := true, named := ["errors.errorType"], plainKeys := false, apart := false, laid := [("errors.errorType", laid_errors_errorType)], narrowed := true }
def AsyncTellsUptoSaid : Prop := asyncTellsUptoRow.holds Tryd.pinned (OpenSpec.upto asyncTellsSpec)

/-- 'waywardenlaw4.LineTells', WHERE WHAT IT READS IS OF BULK AT MOST 1048576: true; the input reads as it did. -/
def lineTellsUptoRow : OpenClaim := { program := "ytlbdbfmgkappaaadoor", sum := "f6b7560be47ad5e6abce019db94129d534a67dd02219020d8d376df44d0a8956", func := "waywarden/waywardenlaw4.LineTells", spec := "lineTells", inPlace := ["internal/reflectlite.ValueOf", "(internal/reflectlite.Value).Type", "(internal/reflectlite.Value).IsNil", "internal/reflectlite.TypeOf", "(internal/reflectlite.Value).Elem", "(internal/reflectlite.Value).Set"], unfollowed := true, recurses := true, named := ["waywarden/line.nobody", "errors.errorType"], plainKeys := false, apart := false, laid := [("errors.errorType", laid_errors_errorType), ("waywarden/line.nobody", laid_waywarden_line_nobody)], narrowed := true }
def LineTellsUptoSaid : Prop := lineTellsUptoRow.holds Tryd.pinned (OpenSpec.upto lineTellsSpec)

end Rows
end Go.Proofs.YtlbdbfmgkappaaaDoor

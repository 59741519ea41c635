/-
  No cell of these rows narrows 'for every input' (looked for: loops, veiled, ifaces, maps, wideKeys, modest, calm, conditions, laid).
  DERIVED. THE GIVEN ROWS OF THIS SEAT. 3 by the template 'for every input the law returns true; each argument reads behind the call as it read before'; 0 by the template 'total and deterministic' (their statements: YtlbdbfmgkappaaaTotals.lean).
  GIVEN WITH THE SEED: the statements are not yours to turn. If you find one false, say at which input.
  Laid BY PROGRAM, IN A SANDBOX (cutbox-rows.mjs): the forced cells as the released guide's own fill.sh prints them over the translation d1d23b8703819025… (all of the seat's roots in one cut). By AI agents, Wed Nov 11 2026. No macro, syntax, notation, axiom, sorry.
-/
import Derived.Test.YtlbdbfmgkappaaaChecked
import GoSem.Claim
import GoSem.ClaimJoined
import GoSem.ClaimMapViews
import Derived.JoinedTies
import Derived.KernelRfl
namespace Go.Proofs.Ytlbdbfmgkappaaa
/- THE CELL 'sum', in the pinned program and in every row, IS THE sha256 OF THE DUMP (.gsa) THAT YtlbdbfmgkappaaaProg.lean LOADS. Nothing in Lean hashes anything: it is a label: what it is worth is what the hold of that sum in a sandbox is worth. -/
noncomputable def Try.pinned : Pinned := { name := "ytlbdbfmgkappaaa", sum := "d1d23b87038190255f169011fb02f51e7accfc6c6c8bdb02038526e41a4abbec", checked := Try.checked }
namespace Rows
def none {H : Type} : Left H := { results := [], args := [] }

/-- 'waywardenlaw4.AsyncSettles': WHATEVER THE INPUT: true; the input reads as it did. -/
def asyncSettlesSpec : ChangeSpec := { name := "asyncSettles", fn := fun _ => fun
  | [d1, d2, d3, d4, d5, d6] => { results := [.lit (.bool true)], args := [d1, d2, d3, d4, d5, d6] }
  | _ => none }
def asyncSettlesRow : OpenClaim := { program := "ytlbdbfmgkappaaa", sum := "d1d23b87038190255f169011fb02f51e7accfc6c6c8bdb02038526e41a4abbec", func := "waywarden/waywardenlaw4.AsyncSettles", spec := "asyncSettles", plainKeys := false, apart := false }
def AsyncSettlesSaid : Prop := asyncSettlesRow.holds Try.pinned (OpenSpec.ofChange asyncSettlesSpec)

/-- ITS FALSE NEIGHBOUR: 'it returns false'. Refute it at one input. -/
def asyncSettlesWrong : ChangeSpec := { name := "asyncSettles", fn := fun _ => fun
  | [d1, d2, d3, d4, d5, d6] => { results := [.lit (.bool false)], args := [d1, d2, d3, d4, d5, d6] }
  | _ => none }
def AsyncSettlesWrongFalsely : Prop := asyncSettlesRow.holds Try.pinned (OpenSpec.ofChange asyncSettlesWrong)

/-- 'waywardenlaw2.WaysCounts': WHATEVER THE INPUT: true; the input reads as it did. -/
def waysCountsSpec : ChangeSpec := { name := "waysCounts", fn := fun _ => fun
  | [d1, d2, d3, d4] => { results := [.lit (.bool true)], args := [d1, d2, d3, d4] }
  | _ => none }
def waysCountsRow : OpenClaim := { program := "ytlbdbfmgkappaaa", sum := "d1d23b87038190255f169011fb02f51e7accfc6c6c8bdb02038526e41a4abbec", func := "waywarden/waywardenlaw2.WaysCounts", spec := "waysCounts", unfollowed := true, recurses := true, plainKeys := false, apart := false }
def WaysCountsSaid : Prop := waysCountsRow.holds Try.pinned (OpenSpec.ofChange waysCountsSpec)

/-- ITS FALSE NEIGHBOUR: 'it returns false'. Refute it at one input. -/
def waysCountsWrong : ChangeSpec := { name := "waysCounts", fn := fun _ => fun
  | [d1, d2, d3, d4] => { results := [.lit (.bool false)], args := [d1, d2, d3, d4] }
  | _ => none }
def WaysCountsWrongFalsely : Prop := waysCountsRow.holds Try.pinned (OpenSpec.ofChange waysCountsWrong)

/-- 'waywardenlaw4.AsyncAbove': WHATEVER THE INPUT: true; the input reads as it did. -/
def asyncAboveSpec : ChangeSpec := { name := "asyncAbove", fn := fun _ => fun
  | [d1, d2, d3, d4, d5, d6] => { results := [.lit (.bool true)], args := [d1, d2, d3, d4, d5, d6] }
  | _ => none }
def asyncAboveRow : OpenClaim := { program := "ytlbdbfmgkappaaa", sum := "d1d23b87038190255f169011fb02f51e7accfc6c6c8bdb02038526e41a4abbec", func := "waywarden/waywardenlaw4.AsyncAbove", spec := "asyncAbove", unfollowed := true, recurses := true, plainKeys := false, apart := false }
def AsyncAboveSaid : Prop := asyncAboveRow.holds Try.pinned (OpenSpec.ofChange asyncAboveSpec)

/-- ITS FALSE NEIGHBOUR: 'it returns false'. Refute it at one input. -/
def asyncAboveWrong : ChangeSpec := { name := "asyncAbove", fn := fun _ => fun
  | [d1, d2, d3, d4, d5, d6] => { results := [.lit (.bool false)], args := [d1, d2, d3, d4, d5, d6] }
  | _ => none }
def AsyncAboveWrongFalsely : Prop := asyncAboveRow.holds Try.pinned (OpenSpec.ofChange asyncAboveWrong)

/- THE SECOND FORM. 'bulk': how many values and letters a reading holds, each counted each time it is reached (what is shared counts as often as it is met; a slice's spare places count too). A statement '..UptoSaid' is the law's where the arguments, and the package variables that the reading takes, are together of bulk at most 1048576: NARROWER than '..Said'. Prove '..Said' where nothing that the law and all that it calls make is longer than what came in: it says more and counts as full. Else prove '..UptoSaid'. A law counts once. -/
mutual
def uptoBulk {H : Type} : DataW H → Nat
  | .lit (.string bytes) => bytes.length + 1
  | .lit _ => 1
  | .nil => 1
  | .ptr d => uptoBulk d + 1
  | .slice elems spare => uptoBulkAll elems + uptoBulkAll spare + 1
  | .agg parts => uptoBulkAll parts + 1
  | .iface _ d => uptoBulk d + 1
  | .map entries => uptoBulkEntries entries + 1
  | .held _ => 1
def uptoBulkAll {H : Type} : List (DataW H) → Nat
  | [] => 0
  | d :: r => uptoBulk d + uptoBulkAll r
def uptoBulkEntries {H : Type} : List (Lit × DataW H) → Nat
  | [] => 0
  | x :: r => uptoBulkEntry x + uptoBulkEntries r
def uptoBulkEntry {H : Type} : Lit × DataW H → Nat
  | (.string bytes, d) => bytes.length + uptoBulk d + 1
  | (_, d) => uptoBulk d + 1
 end
def uptoSmall : (H : Type) → List (DataW H) → Bool := fun _ ds => decide (uptoBulkAll ds ≤ 1048576)
def OpenSpec.upto (s : _root_.Go.ChangeSpec) : _root_.Go.OpenSpec := { _root_.Go.OpenSpec.ofChange s with cond := some uptoSmall }

/-- 'waywardenlaw4.AsyncSettles', WHERE WHAT IT READS IS OF BULK AT MOST 1048576: true; the input reads as it did. -/
def asyncSettlesUptoRow : OpenClaim := { program := "ytlbdbfmgkappaaa", sum := "d1d23b87038190255f169011fb02f51e7accfc6c6c8bdb02038526e41a4abbec", func := "waywarden/waywardenlaw4.AsyncSettles", spec := "asyncSettles", plainKeys := false, apart := false, narrowed := true }
def AsyncSettlesUptoSaid : Prop := asyncSettlesUptoRow.holds Try.pinned (OpenSpec.upto asyncSettlesSpec)

/-- 'waywardenlaw2.WaysCounts', WHERE WHAT IT READS IS OF BULK AT MOST 1048576: true; the input reads as it did. -/
def waysCountsUptoRow : OpenClaim := { program := "ytlbdbfmgkappaaa", sum := "d1d23b87038190255f169011fb02f51e7accfc6c6c8bdb02038526e41a4abbec", func := "waywarden/waywardenlaw2.WaysCounts", spec := "waysCounts", unfollowed := true, recurses := true, plainKeys := false, apart := false, narrowed := true }
def WaysCountsUptoSaid : Prop := waysCountsUptoRow.holds Try.pinned (OpenSpec.upto waysCountsSpec)

/-- 'waywardenlaw4.AsyncAbove', WHERE WHAT IT READS IS OF BULK AT MOST 1048576: true; the input reads as it did. -/
def asyncAboveUptoRow : OpenClaim := { program := "ytlbdbfmgkappaaa", sum := "d1d23b87038190255f169011fb02f51e7accfc6c6c8bdb02038526e41a4abbec", func := "waywarden/waywardenlaw4.AsyncAbove", spec := "asyncAbove", unfollowed := true, recurses := true, plainKeys := false, apart := false, narrowed := true }
def AsyncAboveUptoSaid : Prop := asyncAboveUptoRow.holds Try.pinned (OpenSpec.upto asyncAboveSpec)

end Rows
end Go.Proofs.Ytlbdbfmgkappaaa

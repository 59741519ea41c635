/-
  No cell of these rows narrows 'for every input' (looked for: loops, veiled, ifaces, maps, wideKeys, modest, calm, conditions, laid).
  DERIVED. THE GIVEN ROWS OF THIS SEAT. 3 by the template 'for every input the law returns true; each argument reads behind the call as it read before'; 0 by the template 'total and deterministic' (their statements: YtlemmphnmklbeaaTotals.lean).
  GIVEN WITH THE SEED: the statements are not yours to turn. If you find one false, say at which input.
  Laid BY PROGRAM, IN A SANDBOX (cutbox-rows.mjs): the forced cells as the released guide's own fill.sh prints them over the translation 5f1701f150138ebb… (all of the seat's roots in one cut). By AI agents, Wed Nov 11 2026. No macro, syntax, notation, axiom, sorry.
-/
import Derived.Test.YtlemmphnmklbeaaChecked
import GoSem.Claim
import GoSem.ClaimJoined
import GoSem.ClaimMapViews
import Derived.JoinedTies
import Derived.KernelRfl
namespace Go.Proofs.Ytlemmphnmklbeaa
/- THE CELL 'sum', in the pinned program and in every row, IS THE sha256 OF THE DUMP (.gsa) THAT YtlemmphnmklbeaaProg.lean LOADS. Nothing in Lean hashes anything: it is a label: what it is worth is what the hold of that sum in a sandbox is worth. -/
noncomputable def Try.pinned : Pinned := { name := "ytlemmphnmklbeaa", sum := "5f1701f150138ebbc21ed48e12cb4fed9f23ad171dd7bcb0c1d1a57b694a1ec7", checked := Try.checked }
namespace Rows
def none {H : Type} : Left H := { results := [], args := [] }

/-- 'waywardenlaw4.LfiFalls': WHATEVER THE INPUT: true; the input reads as it did. -/
def lfiFallsSpec : ChangeSpec := { name := "lfiFalls", fn := fun _ => fun
  | [d1, d2, d3, d4, d5, d6, d7] => { results := [.lit (.bool true)], args := [d1, d2, d3, d4, d5, d6, d7] }
  | _ => none }
def lfiFallsRow : OpenClaim := { program := "ytlemmphnmklbeaa", sum := "5f1701f150138ebbc21ed48e12cb4fed9f23ad171dd7bcb0c1d1a57b694a1ec7", func := "waywarden/waywardenlaw4.LfiFalls", spec := "lfiFalls", plainKeys := false, apart := false }
def LfiFallsSaid : Prop := lfiFallsRow.holds Try.pinned (OpenSpec.ofChange lfiFallsSpec)

/-- ITS FALSE NEIGHBOUR: 'it returns false'. Refute it at one input. -/
def lfiFallsWrong : ChangeSpec := { name := "lfiFalls", fn := fun _ => fun
  | [d1, d2, d3, d4, d5, d6, d7] => { results := [.lit (.bool false)], args := [d1, d2, d3, d4, d5, d6, d7] }
  | _ => none }
def LfiFallsWrongFalsely : Prop := lfiFallsRow.holds Try.pinned (OpenSpec.ofChange lfiFallsWrong)

/-- 'waywardenlaw4.LfiNever': WHATEVER THE INPUT: true; the input reads as it did. -/
def lfiNeverSpec : ChangeSpec := { name := "lfiNever", fn := fun _ => fun
  | [d1, d2, d3, d4, d5, d6, d7, d8] => { results := [.lit (.bool true)], args := [d1, d2, d3, d4, d5, d6, d7, d8] }
  | _ => none }
def lfiNeverRow : OpenClaim := { program := "ytlemmphnmklbeaa", sum := "5f1701f150138ebbc21ed48e12cb4fed9f23ad171dd7bcb0c1d1a57b694a1ec7", func := "waywarden/waywardenlaw4.LfiNever", spec := "lfiNever", plainKeys := false, apart := false }
def LfiNeverSaid : Prop := lfiNeverRow.holds Try.pinned (OpenSpec.ofChange lfiNeverSpec)

/-- ITS FALSE NEIGHBOUR: 'it returns false'. Refute it at one input. -/
def lfiNeverWrong : ChangeSpec := { name := "lfiNever", fn := fun _ => fun
  | [d1, d2, d3, d4, d5, d6, d7, d8] => { results := [.lit (.bool false)], args := [d1, d2, d3, d4, d5, d6, d7, d8] }
  | _ => none }
def LfiNeverWrongFalsely : Prop := lfiNeverRow.holds Try.pinned (OpenSpec.ofChange lfiNeverWrong)

/-- 'waywardenlaw4.LfiReaches': WHATEVER THE INPUT: true; the input reads as it did. -/
def lfiReachesSpec : ChangeSpec := { name := "lfiReaches", fn := fun _ => fun
  | [d1, d2, d3] => { results := [.lit (.bool true)], args := [d1, d2, d3] }
  | _ => none }
def lfiReachesRow : OpenClaim := { program := "ytlemmphnmklbeaa", sum := "5f1701f150138ebbc21ed48e12cb4fed9f23ad171dd7bcb0c1d1a57b694a1ec7", func := "waywarden/waywardenlaw4.LfiReaches", spec := "lfiReaches", plainKeys := false, apart := false }
def LfiReachesSaid : Prop := lfiReachesRow.holds Try.pinned (OpenSpec.ofChange lfiReachesSpec)

/-- ITS FALSE NEIGHBOUR: 'it returns false'. Refute it at one input. -/
def lfiReachesWrong : ChangeSpec := { name := "lfiReaches", fn := fun _ => fun
  | [d1, d2, d3] => { results := [.lit (.bool false)], args := [d1, d2, d3] }
  | _ => none }
def LfiReachesWrongFalsely : Prop := lfiReachesRow.holds Try.pinned (OpenSpec.ofChange lfiReachesWrong)

/- THE SECOND FORM. 'bulk': how many values and letters a reading holds, each counted each time it is reached (what is shared counts as often as it is met; a slice's spare places count too). A statement '..UptoSaid' is the law's where the arguments, and the package variables that the reading takes, are together of bulk at most 1048576: NARROWER than '..Said'. Prove '..Said' where nothing that the law and all that it calls make is longer than what came in: it says more and counts as full. Else prove '..UptoSaid'. A law counts once. -/
mutual
def uptoBulk {H : Type} : DataW H → Nat
  | .lit (.string bytes) => bytes.length + 1
  | .lit _ => 1
  | .nil => 1
  | .ptr d => uptoBulk d + 1
  | .slice elems spare => uptoBulkAll elems + uptoBulkAll spare + 1
  | .agg parts => uptoBulkAll parts + 1
  | .iface _ d => uptoBulk d + 1
  | .map entries => uptoBulkEntries entries + 1
  | .held _ => 1
def uptoBulkAll {H : Type} : List (DataW H) → Nat
  | [] => 0
  | d :: r => uptoBulk d + uptoBulkAll r
def uptoBulkEntries {H : Type} : List (Lit × DataW H) → Nat
  | [] => 0
  | x :: r => uptoBulkEntry x + uptoBulkEntries r
def uptoBulkEntry {H : Type} : Lit × DataW H → Nat
  | (.string bytes, d) => bytes.length + uptoBulk d + 1
  | (_, d) => uptoBulk d + 1
 end
def uptoSmall : (H : Type) → List (DataW H) → Bool := fun _ ds => decide (uptoBulkAll ds ≤ 1048576)
def OpenSpec.upto (s : _root_.Go.ChangeSpec) : _root_.Go.OpenSpec := { _root_.Go.OpenSpec.ofChange s with cond := some uptoSmall }

/-- 'waywardenlaw4.LfiFalls', WHERE WHAT IT READS IS OF BULK AT MOST 1048576: true; the input reads as it did. -/
def lfiFallsUptoRow : OpenClaim := { program := "ytlemmphnmklbeaa", sum := "5f1701f150138ebbc21ed48e12cb4fed9f23ad171dd7bcb0c1d1a57b694a1ec7", func := "waywarden/waywardenlaw4.LfiFalls", spec := "lfiFalls", plainKeys := false, apart := false, narrowed := true }
def LfiFallsUptoSaid : Prop := lfiFallsUptoRow.holds Try.pinned (OpenSpec.upto lfiFallsSpec)

/-- 'waywardenlaw4.LfiNever', WHERE WHAT IT READS IS OF BULK AT MOST 1048576: true; the input reads as it did. -/
def lfiNeverUptoRow : OpenClaim := { program := "ytlemmphnmklbeaa", sum := "5f1701f150138ebbc21ed48e12cb4fed9f23ad171dd7bcb0c1d1a57b694a1ec7", func := "waywarden/waywardenlaw4.LfiNever", spec := "lfiNever", plainKeys := false, apart := false, narrowed := true }
def LfiNeverUptoSaid : Prop := lfiNeverUptoRow.holds Try.pinned (OpenSpec.upto lfiNeverSpec)

/-- 'waywardenlaw4.LfiReaches', WHERE WHAT IT READS IS OF BULK AT MOST 1048576: true; the input reads as it did. -/
def lfiReachesUptoRow : OpenClaim := { program := "ytlemmphnmklbeaa", sum := "5f1701f150138ebbc21ed48e12cb4fed9f23ad171dd7bcb0c1d1a57b694a1ec7", func := "waywarden/waywardenlaw4.LfiReaches", spec := "lfiReaches", plainKeys := false, apart := false, narrowed := true }
def LfiReachesUptoSaid : Prop := lfiReachesUptoRow.holds Try.pinned (OpenSpec.upto lfiReachesSpec)

end Rows
end Go.Proofs.Ytlemmphnmklbeaa

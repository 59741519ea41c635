/-
  DERIVED. GIVEN WITH THE SEED: THE CARDS: each row of YtlbdbfmgkappaaaDoorRows.lean that lists a variable, with what it lists TIED to the program's text (the seventh form; the later family's looks); each row that meets fmt, with fmt's text TOLD by the authors' own Lean function (tested against real Go, not proved from fmt's source: count such statements apart). THE CARD IS WHAT COUNTS. Prove the row's statement (the work); the ties are given (YtlbdbfmgkappaaaDoorTie.lean); close each card by the builder's one call (the guide's Derived/Test/ToyasCard.lean, 'card_holds'). Laid BY PROGRAM, IN A SANDBOX (cutbox-door.mjs). By AI agents, Wed Nov 11 2026. No macro, syntax, notation, axiom, sorry.
-/
import Derived.Test.YtlbdbfmgkappaaaDoorRows
import GoSem.ClaimSeven
namespace Go.Proofs.YtlbdbfmgkappaaaDoor
namespace Rows

/-- THE TIED CARD OF 'waywardentop.TopFar'. -/
def topFarCard : Claim7 := { stood := { row := topFarRow, standIns := [], harness := (true, "e61bafe14b53a45856b6c72cec81599224593268bd654caba76644d123187f85"), looks := true }, kinds := [], alts := [], laidByText := true, laidKinds := [.data], laidTests := true, laidLooks := .later }
def TopFarCardSaid : Prop := Claim7.holds Tryd.pinned (.plain (OpenSpec.ofChange topFarSpec)) topFarCard

/-- THE TIED CARD OF 'waywardenlaw4.AsyncTells'. -/
def asyncTellsCard : Claim7 := { stood := { row := asyncTellsRow, standIns := [], harness := (true, "e61bafe14b53a45856b6c72cec81599224593268bd654caba76644d123187f85"), looks := true }, kinds := [], alts := [], laidByText := true, laidKinds := [.handle], laidTests := true, laidLooks := .later }
def AsyncTellsCardSaid : Prop := Claim7.holds Tryd.pinned (.plain (OpenSpec.ofChange asyncTellsSpec)) asyncTellsCard

/-- THE TIED CARD OF 'waywardenlaw4.LineTells'. -/
def lineTellsCard : Claim7 := { stood := { row := lineTellsRow, standIns := [], harness := (true, "e61bafe14b53a45856b6c72cec81599224593268bd654caba76644d123187f85"), looks := true }, kinds := [], alts := [], laidByText := true, laidKinds := [.handle, .data], laidTests := true, laidLooks := .later }
def LineTellsCardSaid : Prop := Claim7.holds Tryd.pinned (.plain (OpenSpec.ofChange lineTellsSpec)) lineTellsCard

/-- THE SECOND FORM's CARD OF 'waywardentop.TopFar'. -/
def topFarUptoCard : Claim7 := { stood := { row := topFarUptoRow, standIns := [], harness := (true, "e61bafe14b53a45856b6c72cec81599224593268bd654caba76644d123187f85"), looks := true }, kinds := [], alts := [], laidByText := true, laidKinds := [.data], laidTests := true, laidLooks := .later }
def TopFarUptoCardSaid : Prop := Claim7.holds Tryd.pinned (.plain (OpenSpec.upto topFarSpec)) topFarUptoCard

/-- THE SECOND FORM's CARD OF 'waywardenlaw4.AsyncTells'. -/
def asyncTellsUptoCard : Claim7 := { stood := { row := asyncTellsUptoRow, standIns := [], harness := (true, "e61bafe14b53a45856b6c72cec81599224593268bd654caba76644d123187f85"), looks := true }, kinds := [], alts := [], laidByText := true, laidKinds := [.handle], laidTests := true, laidLooks := .later }
def AsyncTellsUptoCardSaid : Prop := Claim7.holds Tryd.pinned (.plain (OpenSpec.upto asyncTellsSpec)) asyncTellsUptoCard

/-- THE SECOND FORM's CARD OF 'waywardenlaw4.LineTells'. -/
def lineTellsUptoCard : Claim7 := { stood := { row := lineTellsUptoRow, standIns := [], harness := (true, "e61bafe14b53a45856b6c72cec81599224593268bd654caba76644d123187f85"), looks := true }, kinds := [], alts := [], laidByText := true, laidKinds := [.handle, .data], laidTests := true, laidLooks := .later }
def LineTellsUptoCardSaid : Prop := Claim7.holds Tryd.pinned (.plain (OpenSpec.upto lineTellsSpec)) lineTellsUptoCard
end Rows
end Go.Proofs.YtlbdbfmgkappaaaDoor

/-
  DERIVED. GIVEN WITH THE SEED: THE CARDS: each row of YtbepfmcaolmhgaaDoorRows.lean that lists a variable, with what it lists TIED to the program's text (the seventh form; the later family's looks); each row that meets fmt, with fmt's text TOLD by the authors' own Lean function (tested against real Go, not proved from fmt's source: count such statements apart). THE CARD IS WHAT COUNTS. Prove the row's statement (the work); the ties are given (YtbepfmcaolmhgaaDoorTie.lean); close each card by the builder's one call (the guide's Derived/Test/ToyasCard.lean, 'card_holds'). Laid BY PROGRAM, IN A SANDBOX (cutbox-door.mjs). By AI agents, Wed Nov 11 2026. No macro, syntax, notation, axiom, sorry.
-/
import Derived.Test.YtbepfmcaolmhgaaDoorRows
import GoSem.ClaimSeven
namespace Go.Proofs.YtbepfmcaolmhgaaDoor
namespace Rows

/-- THE TIED CARD OF 'waywardenlaw4.LinePoison'. -/
def linePoisonCard : Claim7 := { stood := { row := linePoisonRow, standIns := [], harness := (true, "88da0010b3029f6573ee44a8eed5668eb54122c4a1f28186d408a0c44e8f9fa8"), looks := true }, kinds := [], alts := [], laidByText := true, laidKinds := [.data], laidTests := true, laidLooks := .later }
def LinePoisonCardSaid : Prop := Claim7.holds Tryd.pinned (.plain (OpenSpec.ofChange linePoisonSpec)) linePoisonCard

/-- THE TIED CARD OF 'waywardenlaw4.LineSettles'. -/
def lineSettlesCard : Claim7 := { stood := { row := lineSettlesRow, standIns := [], harness := (true, "88da0010b3029f6573ee44a8eed5668eb54122c4a1f28186d408a0c44e8f9fa8"), looks := true }, kinds := [], alts := [], laidByText := true, laidKinds := [.data], laidTests := true, laidLooks := .later }
def LineSettlesCardSaid : Prop := Claim7.holds Tryd.pinned (.plain (OpenSpec.ofChange lineSettlesSpec)) lineSettlesCard

/-- THE TIED CARD OF 'waywardenlaw4.LineCounts'. -/
def lineCountsCard : Claim7 := { stood := { row := lineCountsRow, standIns := [], harness := (true, "88da0010b3029f6573ee44a8eed5668eb54122c4a1f28186d408a0c44e8f9fa8"), looks := true }, kinds := [], alts := [], laidByText := true, laidKinds := [.data], laidTests := true, laidLooks := .later }
def LineCountsCardSaid : Prop := Claim7.holds Tryd.pinned (.plain (OpenSpec.ofChange lineCountsSpec)) lineCountsCard

/-- THE TIED CARD OF 'waywardenlaw2.SpfTells'. -/
def spfTellsCard : Claim7 := { stood := { row := spfTellsRow, standIns := [], harness := (true, "88da0010b3029f6573ee44a8eed5668eb54122c4a1f28186d408a0c44e8f9fa8"), looks := true }, kinds := [], alts := [], laidByText := true, laidKinds := [.handle], laidTests := true, laidLooks := .later }
def SpfTellsCardSaid : Prop := Claim7.holds Tryd.pinned (.plain (OpenSpec.ofChange spfTellsSpec)) spfTellsCard

/-- THE TIED CARD OF 'waywardenlaw4.LineTells'. -/
def lineTellsCard : Claim7 := { stood := { row := lineTellsRow, standIns := [], harness := (true, "88da0010b3029f6573ee44a8eed5668eb54122c4a1f28186d408a0c44e8f9fa8"), looks := true }, kinds := [], alts := [], laidByText := true, laidKinds := [.handle, .data], laidTests := true, laidLooks := .later }
def LineTellsCardSaid : Prop := Claim7.holds Tryd.pinned (.plain (OpenSpec.ofChange lineTellsSpec)) lineTellsCard

/-- THE TIED CARD OF 'waywardenlaw4.TraceArrives'. -/
def traceArrivesCard : Claim7 := { stood := { row := traceArrivesRow, standIns := [], harness := (true, "88da0010b3029f6573ee44a8eed5668eb54122c4a1f28186d408a0c44e8f9fa8"), looks := true }, kinds := [], alts := [], laidByText := true, laidKinds := [.handle, .data], laidTests := true, laidLooks := .later }
def TraceArrivesCardSaid : Prop := Claim7.holds Tryd.pinned (.plain (OpenSpec.ofChange traceArrivesSpec)) traceArrivesCard

/-- THE SECOND FORM's CARD OF 'waywardenlaw4.LinePoison'. -/
def linePoisonUptoCard : Claim7 := { stood := { row := linePoisonUptoRow, standIns := [], harness := (true, "88da0010b3029f6573ee44a8eed5668eb54122c4a1f28186d408a0c44e8f9fa8"), looks := true }, kinds := [], alts := [], laidByText := true, laidKinds := [.data], laidTests := true, laidLooks := .later }
def LinePoisonUptoCardSaid : Prop := Claim7.holds Tryd.pinned (.plain (OpenSpec.upto linePoisonSpec)) linePoisonUptoCard

/-- THE SECOND FORM's CARD OF 'waywardenlaw4.LineSettles'. -/
def lineSettlesUptoCard : Claim7 := { stood := { row := lineSettlesUptoRow, standIns := [], harness := (true, "88da0010b3029f6573ee44a8eed5668eb54122c4a1f28186d408a0c44e8f9fa8"), looks := true }, kinds := [], alts := [], laidByText := true, laidKinds := [.data], laidTests := true, laidLooks := .later }
def LineSettlesUptoCardSaid : Prop := Claim7.holds Tryd.pinned (.plain (OpenSpec.upto lineSettlesSpec)) lineSettlesUptoCard

/-- THE SECOND FORM's CARD OF 'waywardenlaw4.LineCounts'. -/
def lineCountsUptoCard : Claim7 := { stood := { row := lineCountsUptoRow, standIns := [], harness := (true, "88da0010b3029f6573ee44a8eed5668eb54122c4a1f28186d408a0c44e8f9fa8"), looks := true }, kinds := [], alts := [], laidByText := true, laidKinds := [.data], laidTests := true, laidLooks := .later }
def LineCountsUptoCardSaid : Prop := Claim7.holds Tryd.pinned (.plain (OpenSpec.upto lineCountsSpec)) lineCountsUptoCard

/-- THE SECOND FORM's CARD OF 'waywardenlaw2.SpfTells'. -/
def spfTellsUptoCard : Claim7 := { stood := { row := spfTellsUptoRow, standIns := [], harness := (true, "88da0010b3029f6573ee44a8eed5668eb54122c4a1f28186d408a0c44e8f9fa8"), looks := true }, kinds := [], alts := [], laidByText := true, laidKinds := [.handle], laidTests := true, laidLooks := .later }
def SpfTellsUptoCardSaid : Prop := Claim7.holds Tryd.pinned (.plain (OpenSpec.upto spfTellsSpec)) spfTellsUptoCard

/-- THE SECOND FORM's CARD OF 'waywardenlaw4.LineTells'. -/
def lineTellsUptoCard : Claim7 := { stood := { row := lineTellsUptoRow, standIns := [], harness := (true, "88da0010b3029f6573ee44a8eed5668eb54122c4a1f28186d408a0c44e8f9fa8"), looks := true }, kinds := [], alts := [], laidByText := true, laidKinds := [.handle, .data], laidTests := true, laidLooks := .later }
def LineTellsUptoCardSaid : Prop := Claim7.holds Tryd.pinned (.plain (OpenSpec.upto lineTellsSpec)) lineTellsUptoCard

/-- THE SECOND FORM's CARD OF 'waywardenlaw4.TraceArrives'. -/
def traceArrivesUptoCard : Claim7 := { stood := { row := traceArrivesUptoRow, standIns := [], harness := (true, "88da0010b3029f6573ee44a8eed5668eb54122c4a1f28186d408a0c44e8f9fa8"), looks := true }, kinds := [], alts := [], laidByText := true, laidKinds := [.handle, .data], laidTests := true, laidLooks := .later }
def TraceArrivesUptoCardSaid : Prop := Claim7.holds Tryd.pinned (.plain (OpenSpec.upto traceArrivesSpec)) traceArrivesUptoCard
end Rows
end Go.Proofs.YtbepfmcaolmhgaaDoor

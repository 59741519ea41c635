/-
  DERIVED. GIVEN WITH THE SEED: THE CARDS: each row of YtdilajieimbdnaaDoorRows.lean that lists a variable, with what it lists TIED to the program's text (the seventh form; the later family's looks); each row that meets fmt, with fmt's text TOLD by the authors' own Lean function (tested against real Go, not proved from fmt's source: count such statements apart). THE CARD IS WHAT COUNTS. Prove the row's statement (the work); the ties are given (YtdilajieimbdnaaDoorTie.lean); close each card by the builder's one call (the guide's Derived/Test/ToyasCard.lean, 'card_holds'). Laid BY PROGRAM, IN A SANDBOX (cutbox-door.mjs). By AI agents, Wed Nov 11 2026. No macro, syntax, notation, axiom, sorry.
-/
import Derived.Test.YtdilajieimbdnaaDoorRows
import GoSem.ClaimSeven
namespace Go.Proofs.YtdilajieimbdnaaDoor
namespace Rows

/-- THE TIED CARD OF 'waywardenlaw4.DampTells'. -/
def dampTellsCard : Claim7 := { stood := { row := dampTellsRow, standIns := [], harness := (true, "b1cb86966602fd3becfee08697b83ef2159ece37297e65d01a6a306b1f95a5a4"), looks := true }, kinds := [], alts := [], laidByText := true, laidKinds := [.handle], laidTests := true, laidLooks := .later }
def DampTellsCardSaid : Prop := Claim7.holds Tryd.pinned (.plain (OpenSpec.ofChange dampTellsSpec)) dampTellsCard

/-- THE TIED CARD OF 'waywardenlaw2.HeapTells'. -/
def heapTellsCard : Claim7 := { stood := { row := heapTellsRow, standIns := [], harness := (true, "b1cb86966602fd3becfee08697b83ef2159ece37297e65d01a6a306b1f95a5a4"), looks := true }, kinds := [], alts := [], laidByText := true, laidKinds := [.handle], laidTests := true, laidLooks := .later }
def HeapTellsCardSaid : Prop := Claim7.holds Tryd.pinned (.plain (OpenSpec.ofChange heapTellsSpec)) heapTellsCard

/-- THE TIED CARD OF 'waywardenlaw2.BellTells'. -/
def bellTellsCard : Claim7 := { stood := { row := bellTellsRow, standIns := [], harness := (true, "b1cb86966602fd3becfee08697b83ef2159ece37297e65d01a6a306b1f95a5a4"), looks := true }, kinds := [], alts := [], laidByText := true, laidKinds := [.handle], laidTests := true, laidLooks := .later }
def BellTellsCardSaid : Prop := Claim7.holds Tryd.pinned (.plain (OpenSpec.ofChange bellTellsSpec)) bellTellsCard

/-- THE TIED CARD OF 'waywardenlaw2.GraphTells'. -/
def graphTellsCard : Claim7 := { stood := { row := graphTellsRow, standIns := [], harness := (true, "b1cb86966602fd3becfee08697b83ef2159ece37297e65d01a6a306b1f95a5a4"), looks := true }, kinds := [], alts := [], laidByText := true, laidKinds := [.handle], laidTests := true, laidLooks := .later }
def GraphTellsCardSaid : Prop := Claim7.holds Tryd.pinned (.plain (OpenSpec.ofChange graphTellsSpec)) graphTellsCard

/-- THE TIED CARD OF 'waywardenlaw2.MatTells'. -/
def matTellsCard : Claim7 := { stood := { row := matTellsRow, standIns := [], harness := (true, "b1cb86966602fd3becfee08697b83ef2159ece37297e65d01a6a306b1f95a5a4"), looks := true }, kinds := [], alts := [], laidByText := true, laidKinds := [.handle], laidTests := true, laidLooks := .later }
def MatTellsCardSaid : Prop := Claim7.holds Tryd.pinned (.plain (OpenSpec.ofChange matTellsSpec)) matTellsCard

/-- THE TIED CARD OF 'waywardenlaw2.SpfTells'. -/
def spfTellsCard : Claim7 := { stood := { row := spfTellsRow, standIns := [], harness := (true, "b1cb86966602fd3becfee08697b83ef2159ece37297e65d01a6a306b1f95a5a4"), looks := true }, kinds := [], alts := [], laidByText := true, laidKinds := [.handle], laidTests := true, laidLooks := .later }
def SpfTellsCardSaid : Prop := Claim7.holds Tryd.pinned (.plain (OpenSpec.ofChange spfTellsSpec)) spfTellsCard

/-- THE SECOND FORM's CARD OF 'waywardenlaw4.DampTells'. -/
def dampTellsUptoCard : Claim7 := { stood := { row := dampTellsUptoRow, standIns := [], harness := (true, "b1cb86966602fd3becfee08697b83ef2159ece37297e65d01a6a306b1f95a5a4"), looks := true }, kinds := [], alts := [], laidByText := true, laidKinds := [.handle], laidTests := true, laidLooks := .later }
def DampTellsUptoCardSaid : Prop := Claim7.holds Tryd.pinned (.plain (OpenSpec.upto dampTellsSpec)) dampTellsUptoCard

/-- THE SECOND FORM's CARD OF 'waywardenlaw2.HeapTells'. -/
def heapTellsUptoCard : Claim7 := { stood := { row := heapTellsUptoRow, standIns := [], harness := (true, "b1cb86966602fd3becfee08697b83ef2159ece37297e65d01a6a306b1f95a5a4"), looks := true }, kinds := [], alts := [], laidByText := true, laidKinds := [.handle], laidTests := true, laidLooks := .later }
def HeapTellsUptoCardSaid : Prop := Claim7.holds Tryd.pinned (.plain (OpenSpec.upto heapTellsSpec)) heapTellsUptoCard

/-- THE SECOND FORM's CARD OF 'waywardenlaw2.BellTells'. -/
def bellTellsUptoCard : Claim7 := { stood := { row := bellTellsUptoRow, standIns := [], harness := (true, "b1cb86966602fd3becfee08697b83ef2159ece37297e65d01a6a306b1f95a5a4"), looks := true }, kinds := [], alts := [], laidByText := true, laidKinds := [.handle], laidTests := true, laidLooks := .later }
def BellTellsUptoCardSaid : Prop := Claim7.holds Tryd.pinned (.plain (OpenSpec.upto bellTellsSpec)) bellTellsUptoCard

/-- THE SECOND FORM's CARD OF 'waywardenlaw2.GraphTells'. -/
def graphTellsUptoCard : Claim7 := { stood := { row := graphTellsUptoRow, standIns := [], harness := (true, "b1cb86966602fd3becfee08697b83ef2159ece37297e65d01a6a306b1f95a5a4"), looks := true }, kinds := [], alts := [], laidByText := true, laidKinds := [.handle], laidTests := true, laidLooks := .later }
def GraphTellsUptoCardSaid : Prop := Claim7.holds Tryd.pinned (.plain (OpenSpec.upto graphTellsSpec)) graphTellsUptoCard

/-- THE SECOND FORM's CARD OF 'waywardenlaw2.MatTells'. -/
def matTellsUptoCard : Claim7 := { stood := { row := matTellsUptoRow, standIns := [], harness := (true, "b1cb86966602fd3becfee08697b83ef2159ece37297e65d01a6a306b1f95a5a4"), looks := true }, kinds := [], alts := [], laidByText := true, laidKinds := [.handle], laidTests := true, laidLooks := .later }
def MatTellsUptoCardSaid : Prop := Claim7.holds Tryd.pinned (.plain (OpenSpec.upto matTellsSpec)) matTellsUptoCard

/-- THE SECOND FORM's CARD OF 'waywardenlaw2.SpfTells'. -/
def spfTellsUptoCard : Claim7 := { stood := { row := spfTellsUptoRow, standIns := [], harness := (true, "b1cb86966602fd3becfee08697b83ef2159ece37297e65d01a6a306b1f95a5a4"), looks := true }, kinds := [], alts := [], laidByText := true, laidKinds := [.handle], laidTests := true, laidLooks := .later }
def SpfTellsUptoCardSaid : Prop := Claim7.holds Tryd.pinned (.plain (OpenSpec.upto spfTellsSpec)) spfTellsUptoCard
end Rows
end Go.Proofs.YtdilajieimbdnaaDoor

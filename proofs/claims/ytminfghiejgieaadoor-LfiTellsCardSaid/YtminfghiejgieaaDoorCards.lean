/-
  DERIVED. GIVEN WITH THE SEED: THE CARDS: each row of YtminfghiejgieaaDoorRows.lean that lists a variable, with what it lists TIED to the program's text (the seventh form; the later family's looks); each row that meets fmt, with fmt's text TOLD by the authors' own Lean function (tested against real Go, not proved from fmt's source: count such statements apart). THE CARD IS WHAT COUNTS. Prove the row's statement (the work); the ties are given (YtminfghiejgieaaDoorTie.lean); close each card by the builder's one call (the guide's Derived/Test/ToyasCard.lean, 'card_holds'). Laid BY PROGRAM, IN A SANDBOX (cutbox-door.mjs). By AI agents, Wed Nov 11 2026. No macro, syntax, notation, axiom, sorry.
-/
import Derived.Test.YtminfghiejgieaaDoorRows
import GoSem.ClaimSeven
namespace Go.Proofs.YtminfghiejgieaaDoor
namespace Rows

/-- THE TIED CARD OF 'waywardenlaw4.AsyncTells'. -/
def asyncTellsCard : Claim7 := { stood := { row := asyncTellsRow, standIns := [], harness := (true, "d440b66d51042df890d03e471be71f45e6b23b572f162bf9c76c98a8824a88fc"), looks := true }, kinds := [], alts := [], laidByText := true, laidKinds := [.handle], laidTests := true, laidLooks := .later }
def AsyncTellsCardSaid : Prop := Claim7.holds Tryd.pinned (.plain (OpenSpec.ofChange asyncTellsSpec)) asyncTellsCard

/-- THE TIED CARD OF 'waywardenlaw4.LfiTells'. -/
def lfiTellsCard : Claim7 := { stood := { row := lfiTellsRow, standIns := [], harness := (true, "d440b66d51042df890d03e471be71f45e6b23b572f162bf9c76c98a8824a88fc"), looks := true }, kinds := [], alts := [], laidByText := true, laidKinds := [.handle], laidTests := true, laidLooks := .later }
def LfiTellsCardSaid : Prop := Claim7.holds Tryd.pinned (.plain (OpenSpec.ofChange lfiTellsSpec)) lfiTellsCard

/-- THE TIED CARD OF 'waywardenlaw2.WaysTell'. -/
def waysTellCard : Claim7 := { stood := { row := waysTellRow, standIns := [], harness := (true, "d440b66d51042df890d03e471be71f45e6b23b572f162bf9c76c98a8824a88fc"), looks := true }, kinds := [], alts := [], laidByText := true, laidKinds := [.handle], laidTests := true, laidLooks := .later }
def WaysTellCardSaid : Prop := Claim7.holds Tryd.pinned (.plain (OpenSpec.ofChange waysTellSpec)) waysTellCard

/-- THE SECOND FORM's CARD OF 'waywardenlaw4.AsyncTells'. -/
def asyncTellsUptoCard : Claim7 := { stood := { row := asyncTellsUptoRow, standIns := [], harness := (true, "d440b66d51042df890d03e471be71f45e6b23b572f162bf9c76c98a8824a88fc"), looks := true }, kinds := [], alts := [], laidByText := true, laidKinds := [.handle], laidTests := true, laidLooks := .later }
def AsyncTellsUptoCardSaid : Prop := Claim7.holds Tryd.pinned (.plain (OpenSpec.upto asyncTellsSpec)) asyncTellsUptoCard

/-- THE SECOND FORM's CARD OF 'waywardenlaw4.LfiTells'. -/
def lfiTellsUptoCard : Claim7 := { stood := { row := lfiTellsUptoRow, standIns := [], harness := (true, "d440b66d51042df890d03e471be71f45e6b23b572f162bf9c76c98a8824a88fc"), looks := true }, kinds := [], alts := [], laidByText := true, laidKinds := [.handle], laidTests := true, laidLooks := .later }
def LfiTellsUptoCardSaid : Prop := Claim7.holds Tryd.pinned (.plain (OpenSpec.upto lfiTellsSpec)) lfiTellsUptoCard

/-- THE SECOND FORM's CARD OF 'waywardenlaw2.WaysTell'. -/
def waysTellUptoCard : Claim7 := { stood := { row := waysTellUptoRow, standIns := [], harness := (true, "d440b66d51042df890d03e471be71f45e6b23b572f162bf9c76c98a8824a88fc"), looks := true }, kinds := [], alts := [], laidByText := true, laidKinds := [.handle], laidTests := true, laidLooks := .later }
def WaysTellUptoCardSaid : Prop := Claim7.holds Tryd.pinned (.plain (OpenSpec.upto waysTellSpec)) waysTellUptoCard
end Rows
end Go.Proofs.YtminfghiejgieaaDoor

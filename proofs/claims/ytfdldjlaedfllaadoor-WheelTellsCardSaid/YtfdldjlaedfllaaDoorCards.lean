/-
  DERIVED. GIVEN WITH THE SEED: THE CARDS: each row of YtfdldjlaedfllaaDoorRows.lean that lists a variable, with what it lists TIED to the program's text (the seventh form; the later family's looks); each row that meets fmt, with fmt's text TOLD by the authors' own Lean function (tested against real Go, not proved from fmt's source: count such statements apart). THE CARD IS WHAT COUNTS. Prove the row's statement (the work); the ties are given (YtfdldjlaedfllaaDoorTie.lean); close each card by the builder's one call (the guide's Derived/Test/ToyasCard.lean, 'card_holds'). Laid BY PROGRAM, IN A SANDBOX (cutbox-door.mjs). By AI agents, Wed Nov 11 2026. No macro, syntax, notation, axiom, sorry.
-/
import Derived.Test.YtfdldjlaedfllaaDoorRows
import GoSem.ClaimSeven
namespace Go.Proofs.YtfdldjlaedfllaaDoor
namespace Rows

/-- THE TIED CARD OF 'waywardenlaw2.WheelTells'. -/
def wheelTellsCard : Claim7 := { stood := { row := wheelTellsRow, standIns := [], harness := (true, "ac5cbb33595b0c2a5b13669e463b382b0ede0fd35eaffa5900e533a38814bf53"), looks := true }, kinds := [], alts := [], laidByText := true, laidKinds := [.handle], laidTests := true, laidLooks := .later }
def WheelTellsCardSaid : Prop := Claim7.holds Tryd.pinned (.plain (OpenSpec.ofChange wheelTellsSpec)) wheelTellsCard

/-- THE TIED CARD OF 'waywardenlaw4.PickTells'. -/
def pickTellsCard : Claim7 := { stood := { row := pickTellsRow, standIns := [], harness := (true, "ac5cbb33595b0c2a5b13669e463b382b0ede0fd35eaffa5900e533a38814bf53"), looks := true }, kinds := [], alts := [], laidByText := true, laidKinds := [.handle], laidTests := true, laidLooks := .later }
def PickTellsCardSaid : Prop := Claim7.holds Tryd.pinned (.plain (OpenSpec.ofChange pickTellsSpec)) pickTellsCard

/-- THE TIED CARD OF 'waywardenlaw4.PickOrder'. -/
def pickOrderCard : Claim7 := { stood := { row := pickOrderRow, standIns := [], harness := (true, "ac5cbb33595b0c2a5b13669e463b382b0ede0fd35eaffa5900e533a38814bf53"), looks := true }, kinds := [], alts := [], laidByText := true, laidKinds := [.handle], laidTests := true, laidLooks := .later }
def PickOrderCardSaid : Prop := Claim7.holds Tryd.pinned (.plain (OpenSpec.ofChange pickOrderSpec)) pickOrderCard

/-- THE SECOND FORM's CARD OF 'waywardenlaw2.WheelTells'. -/
def wheelTellsUptoCard : Claim7 := { stood := { row := wheelTellsUptoRow, standIns := [], harness := (true, "ac5cbb33595b0c2a5b13669e463b382b0ede0fd35eaffa5900e533a38814bf53"), looks := true }, kinds := [], alts := [], laidByText := true, laidKinds := [.handle], laidTests := true, laidLooks := .later }
def WheelTellsUptoCardSaid : Prop := Claim7.holds Tryd.pinned (.plain (OpenSpec.upto wheelTellsSpec)) wheelTellsUptoCard

/-- THE SECOND FORM's CARD OF 'waywardenlaw4.PickTells'. -/
def pickTellsUptoCard : Claim7 := { stood := { row := pickTellsUptoRow, standIns := [], harness := (true, "ac5cbb33595b0c2a5b13669e463b382b0ede0fd35eaffa5900e533a38814bf53"), looks := true }, kinds := [], alts := [], laidByText := true, laidKinds := [.handle], laidTests := true, laidLooks := .later }
def PickTellsUptoCardSaid : Prop := Claim7.holds Tryd.pinned (.plain (OpenSpec.upto pickTellsSpec)) pickTellsUptoCard

/-- THE SECOND FORM's CARD OF 'waywardenlaw4.PickOrder'. -/
def pickOrderUptoCard : Claim7 := { stood := { row := pickOrderUptoRow, standIns := [], harness := (true, "ac5cbb33595b0c2a5b13669e463b382b0ede0fd35eaffa5900e533a38814bf53"), looks := true }, kinds := [], alts := [], laidByText := true, laidKinds := [.handle], laidTests := true, laidLooks := .later }
def PickOrderUptoCardSaid : Prop := Claim7.holds Tryd.pinned (.plain (OpenSpec.upto pickOrderSpec)) pickOrderUptoCard
end Rows
end Go.Proofs.YtfdldjlaedfllaaDoor

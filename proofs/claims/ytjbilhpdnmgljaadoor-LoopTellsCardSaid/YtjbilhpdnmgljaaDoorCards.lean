/-
  DERIVED. GIVEN WITH THE SEED: THE CARDS: each row of YtjbilhpdnmgljaaDoorRows.lean that lists a variable, with what it lists TIED to the program's text (the seventh form; the later family's looks); each row that meets fmt, with fmt's text TOLD by the authors' own Lean function (tested against real Go, not proved from fmt's source: count such statements apart). THE CARD IS WHAT COUNTS. Prove the row's statement (the work); the ties are given (YtjbilhpdnmgljaaDoorTie.lean); close each card by the builder's one call (the guide's Derived/Test/ToyasCard.lean, 'card_holds'). Laid BY PROGRAM, IN A SANDBOX (cutbox-door.mjs). By AI agents, Wed Nov 11 2026. No macro, syntax, notation, axiom, sorry.
-/
import Derived.Test.YtjbilhpdnmgljaaDoorRows
import GoSem.ClaimSeven
namespace Go.Proofs.YtjbilhpdnmgljaaDoor
namespace Rows

/-- THE TIED CARD OF 'waywardenlaw2.DistTells'. -/
def distTellsCard : Claim7 := { stood := { row := distTellsRow, standIns := [], harness := (true, "bf580e38b0178d75bdf8ff33ba898a507877e2532ed429c427bb5edc0fbc7d4b"), looks := true }, kinds := [], alts := [], laidByText := true, laidKinds := [.handle], laidTests := true, laidLooks := .later }
def DistTellsCardSaid : Prop := Claim7.holds Tryd.pinned (.plain (OpenSpec.ofChange distTellsSpec)) distTellsCard

/-- THE TIED CARD OF 'waywardenlaw4.TraceTells'. -/
def traceTellsCard : Claim7 := { stood := { row := traceTellsRow, standIns := [], harness := (true, "bf580e38b0178d75bdf8ff33ba898a507877e2532ed429c427bb5edc0fbc7d4b"), looks := true }, kinds := [], alts := [], laidByText := true, laidKinds := [.handle], laidTests := true, laidLooks := .later }
def TraceTellsCardSaid : Prop := Claim7.holds Tryd.pinned (.plain (OpenSpec.ofChange traceTellsSpec)) traceTellsCard

/-- THE TIED CARD OF 'waywardenlaw4.TraceShort'. -/
def traceShortCard : Claim7 := { stood := { row := traceShortRow, standIns := [], harness := (true, "bf580e38b0178d75bdf8ff33ba898a507877e2532ed429c427bb5edc0fbc7d4b"), looks := true }, kinds := [], alts := [], laidByText := true, laidKinds := [.handle], laidTests := true, laidLooks := .later }
def TraceShortCardSaid : Prop := Claim7.holds Tryd.pinned (.plain (OpenSpec.ofChange traceShortSpec)) traceShortCard

/-- THE TIED CARD OF 'waywardenlaw4.DampTells'. -/
def dampTellsCard : Claim7 := { stood := { row := dampTellsRow, standIns := [], harness := (true, "bf580e38b0178d75bdf8ff33ba898a507877e2532ed429c427bb5edc0fbc7d4b"), looks := true }, kinds := [], alts := [], laidByText := true, laidKinds := [.handle], laidTests := true, laidLooks := .later }
def DampTellsCardSaid : Prop := Claim7.holds Tryd.pinned (.plain (OpenSpec.ofChange dampTellsSpec)) dampTellsCard

/-- THE TIED CARD OF 'waywardentop.TopFar'. -/
def topFarCard : Claim7 := { stood := { row := topFarRow, standIns := [], harness := (true, "bf580e38b0178d75bdf8ff33ba898a507877e2532ed429c427bb5edc0fbc7d4b"), looks := true }, kinds := [], alts := [], laidByText := true, laidKinds := [.data], laidTests := true, laidLooks := .later }
def TopFarCardSaid : Prop := Claim7.holds Tryd.pinned (.plain (OpenSpec.ofChange topFarSpec)) topFarCard

/-- THE TIED CARD OF 'waywardenlaw4.LoopTells'. -/
def loopTellsCard : Claim7 := { stood := { row := loopTellsRow, standIns := [], harness := (true, "bf580e38b0178d75bdf8ff33ba898a507877e2532ed429c427bb5edc0fbc7d4b"), looks := true }, kinds := [], alts := [], laidByText := true, laidKinds := [.handle], laidTests := true, laidLooks := .later }
def LoopTellsCardSaid : Prop := Claim7.holds Tryd.pinned (.plain (OpenSpec.ofChange loopTellsSpec)) loopTellsCard

/-- THE TIED CARD OF 'waywardenlaw4.LoopStays'. -/
def loopStaysCard : Claim7 := { stood := { row := loopStaysRow, standIns := [], harness := (true, "bf580e38b0178d75bdf8ff33ba898a507877e2532ed429c427bb5edc0fbc7d4b"), looks := true }, kinds := [], alts := [], laidByText := true, laidKinds := [.handle], laidTests := true, laidLooks := .later }
def LoopStaysCardSaid : Prop := Claim7.holds Tryd.pinned (.plain (OpenSpec.ofChange loopStaysSpec)) loopStaysCard

/-- THE TIED CARD OF 'waywardenlaw4.LinePoison'. -/
def linePoisonCard : Claim7 := { stood := { row := linePoisonRow, standIns := [], harness := (true, "bf580e38b0178d75bdf8ff33ba898a507877e2532ed429c427bb5edc0fbc7d4b"), looks := true }, kinds := [], alts := [], laidByText := true, laidKinds := [.data], laidTests := true, laidLooks := .later }
def LinePoisonCardSaid : Prop := Claim7.holds Tryd.pinned (.plain (OpenSpec.ofChange linePoisonSpec)) linePoisonCard

/-- THE SECOND FORM's CARD OF 'waywardenlaw2.DistTells'. -/
def distTellsUptoCard : Claim7 := { stood := { row := distTellsUptoRow, standIns := [], harness := (true, "bf580e38b0178d75bdf8ff33ba898a507877e2532ed429c427bb5edc0fbc7d4b"), looks := true }, kinds := [], alts := [], laidByText := true, laidKinds := [.handle], laidTests := true, laidLooks := .later }
def DistTellsUptoCardSaid : Prop := Claim7.holds Tryd.pinned (.plain (OpenSpec.upto distTellsSpec)) distTellsUptoCard

/-- THE SECOND FORM's CARD OF 'waywardenlaw4.TraceTells'. -/
def traceTellsUptoCard : Claim7 := { stood := { row := traceTellsUptoRow, standIns := [], harness := (true, "bf580e38b0178d75bdf8ff33ba898a507877e2532ed429c427bb5edc0fbc7d4b"), looks := true }, kinds := [], alts := [], laidByText := true, laidKinds := [.handle], laidTests := true, laidLooks := .later }
def TraceTellsUptoCardSaid : Prop := Claim7.holds Tryd.pinned (.plain (OpenSpec.upto traceTellsSpec)) traceTellsUptoCard

/-- THE SECOND FORM's CARD OF 'waywardenlaw4.TraceShort'. -/
def traceShortUptoCard : Claim7 := { stood := { row := traceShortUptoRow, standIns := [], harness := (true, "bf580e38b0178d75bdf8ff33ba898a507877e2532ed429c427bb5edc0fbc7d4b"), looks := true }, kinds := [], alts := [], laidByText := true, laidKinds := [.handle], laidTests := true, laidLooks := .later }
def TraceShortUptoCardSaid : Prop := Claim7.holds Tryd.pinned (.plain (OpenSpec.upto traceShortSpec)) traceShortUptoCard

/-- THE SECOND FORM's CARD OF 'waywardenlaw4.DampTells'. -/
def dampTellsUptoCard : Claim7 := { stood := { row := dampTellsUptoRow, standIns := [], harness := (true, "bf580e38b0178d75bdf8ff33ba898a507877e2532ed429c427bb5edc0fbc7d4b"), looks := true }, kinds := [], alts := [], laidByText := true, laidKinds := [.handle], laidTests := true, laidLooks := .later }
def DampTellsUptoCardSaid : Prop := Claim7.holds Tryd.pinned (.plain (OpenSpec.upto dampTellsSpec)) dampTellsUptoCard

/-- THE SECOND FORM's CARD OF 'waywardentop.TopFar'. -/
def topFarUptoCard : Claim7 := { stood := { row := topFarUptoRow, standIns := [], harness := (true, "bf580e38b0178d75bdf8ff33ba898a507877e2532ed429c427bb5edc0fbc7d4b"), looks := true }, kinds := [], alts := [], laidByText := true, laidKinds := [.data], laidTests := true, laidLooks := .later }
def TopFarUptoCardSaid : Prop := Claim7.holds Tryd.pinned (.plain (OpenSpec.upto topFarSpec)) topFarUptoCard

/-- THE SECOND FORM's CARD OF 'waywardenlaw4.LoopTells'. -/
def loopTellsUptoCard : Claim7 := { stood := { row := loopTellsUptoRow, standIns := [], harness := (true, "bf580e38b0178d75bdf8ff33ba898a507877e2532ed429c427bb5edc0fbc7d4b"), looks := true }, kinds := [], alts := [], laidByText := true, laidKinds := [.handle], laidTests := true, laidLooks := .later }
def LoopTellsUptoCardSaid : Prop := Claim7.holds Tryd.pinned (.plain (OpenSpec.upto loopTellsSpec)) loopTellsUptoCard

/-- THE SECOND FORM's CARD OF 'waywardenlaw4.LoopStays'. -/
def loopStaysUptoCard : Claim7 := { stood := { row := loopStaysUptoRow, standIns := [], harness := (true, "bf580e38b0178d75bdf8ff33ba898a507877e2532ed429c427bb5edc0fbc7d4b"), looks := true }, kinds := [], alts := [], laidByText := true, laidKinds := [.handle], laidTests := true, laidLooks := .later }
def LoopStaysUptoCardSaid : Prop := Claim7.holds Tryd.pinned (.plain (OpenSpec.upto loopStaysSpec)) loopStaysUptoCard

/-- THE SECOND FORM's CARD OF 'waywardenlaw4.LinePoison'. -/
def linePoisonUptoCard : Claim7 := { stood := { row := linePoisonUptoRow, standIns := [], harness := (true, "bf580e38b0178d75bdf8ff33ba898a507877e2532ed429c427bb5edc0fbc7d4b"), looks := true }, kinds := [], alts := [], laidByText := true, laidKinds := [.data], laidTests := true, laidLooks := .later }
def LinePoisonUptoCardSaid : Prop := Claim7.holds Tryd.pinned (.plain (OpenSpec.upto linePoisonSpec)) linePoisonUptoCard
end Rows
end Go.Proofs.YtjbilhpdnmgljaaDoor

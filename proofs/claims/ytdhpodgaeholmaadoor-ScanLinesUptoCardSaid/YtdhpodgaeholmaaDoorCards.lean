/-
  DERIVED. GIVEN WITH THE SEED: THE CARDS: each row of YtdhpodgaeholmaaDoorRows.lean that lists a variable, with what it lists TIED to the program's text (the seventh form; the later family's looks); each row that meets fmt, with fmt's text TOLD by the authors' own Lean function (tested against real Go, not proved from fmt's source: count such statements apart). THE CARD IS WHAT COUNTS. Prove the row's statement (the work); the ties are given (YtdhpodgaeholmaaDoorTie.lean); close each card by the builder's one call (the guide's Derived/Test/ToyasCard.lean, 'card_holds'). Laid BY PROGRAM, IN A SANDBOX (cutbox-door.mjs). By AI agents, Wed Nov 11 2026. No macro, syntax, notation, axiom, sorry.
-/
import Derived.Test.YtdhpodgaeholmaaDoorRows
import GoSem.ClaimSeven
namespace Go.Proofs.YtdhpodgaeholmaaDoor
namespace Rows

/-- THE TIED CARD OF 'pllaw3.ExprPrint'. -/
def exprPrintCard : Claim7 := { stood := { row := exprPrintRow, standIns := [], harness := (true, "6e8e81f99d426c840953de0376e0efe1560c096b2c5e75d719ee119155564e78"), looks := true }, kinds := [], alts := [], laidByText := true, laidKinds := [.data, .data, .data], laidTests := true, laidLooks := .later }
def ExprPrintCardSaid : Prop := Claim7.holds Tryd.pinned (.plain (OpenSpec.ofChange exprPrintSpec)) exprPrintCard

/-- THE TIED CARD OF 'pllaw3.ExprMoves'. -/
def exprMovesCard : Claim7 := { stood := { row := exprMovesRow, standIns := [], harness := (true, "6e8e81f99d426c840953de0376e0efe1560c096b2c5e75d719ee119155564e78"), looks := true }, kinds := [], alts := [], laidByText := true, laidKinds := [.data, .data, .data], laidTests := true, laidLooks := .later }
def ExprMovesCardSaid : Prop := Claim7.holds Tryd.pinned (.plain (OpenSpec.ofChange exprMovesSpec)) exprMovesCard

/-- THE TIED CARD OF 'pllaw8.DisTells'. -/
def disTellsCard : Claim7 := { stood := { row := disTellsRow, standIns := [], harness := (true, "6e8e81f99d426c840953de0376e0efe1560c096b2c5e75d719ee119155564e78"), looks := true }, kinds := [], alts := [], laidByText := true, laidKinds := [.data, .data, .data, .data, .listed, .data, .pinned], laidTests := true, laidLooks := .later }
def DisTellsCardSaid : Prop := Claim7.holds Tryd.pinned (.plain (OpenSpec.ofChange disTellsSpec)) disTellsCard

/-- THE TIED CARD OF 'pllaw2.ScanTells'. -/
def scanTellsCard : Claim7 := { stood := { row := scanTellsRow, standIns := [], harness := (true, "6e8e81f99d426c840953de0376e0efe1560c096b2c5e75d719ee119155564e78"), looks := true }, kinds := [], alts := [], laidByText := true, laidKinds := [.data, .data, .data, .data, .sentinel, .sentinel, .pinned], laidTests := true, laidLooks := .later }
def ScanTellsCardSaid : Prop := Claim7.holds Tryd.pinned (.plain (OpenSpec.ofChange scanTellsSpec)) scanTellsCard

/-- THE TIED CARD OF 'pllaw2.ScanPrint'. -/
def scanPrintCard : Claim7 := { stood := { row := scanPrintRow, standIns := [], harness := (true, "6e8e81f99d426c840953de0376e0efe1560c096b2c5e75d719ee119155564e78"), looks := true }, kinds := [], alts := [], laidByText := true, laidKinds := [.data, .data, .data, .data, .sentinel, .sentinel, .pinned], laidTests := true, laidLooks := .later }
def ScanPrintCardSaid : Prop := Claim7.holds Tryd.pinned (.plain (OpenSpec.ofChange scanPrintSpec)) scanPrintCard

/-- THE TIED CARD OF 'pllaw2.ScanLines'. -/
def scanLinesCard : Claim7 := { stood := { row := scanLinesRow, standIns := [], harness := (true, "6e8e81f99d426c840953de0376e0efe1560c096b2c5e75d719ee119155564e78"), looks := true }, kinds := [], alts := [], laidByText := true, laidKinds := [.data, .data, .data, .data, .sentinel, .sentinel, .pinned], laidTests := true, laidLooks := .later }
def ScanLinesCardSaid : Prop := Claim7.holds Tryd.pinned (.plain (OpenSpec.ofChange scanLinesSpec)) scanLinesCard

/-- THE SECOND FORM's CARD OF 'pllaw3.ExprPrint'. -/
def exprPrintUptoCard : Claim7 := { stood := { row := exprPrintUptoRow, standIns := [], harness := (true, "6e8e81f99d426c840953de0376e0efe1560c096b2c5e75d719ee119155564e78"), looks := true }, kinds := [], alts := [], laidByText := true, laidKinds := [.data, .data, .data], laidTests := true, laidLooks := .later }
def ExprPrintUptoCardSaid : Prop := Claim7.holds Tryd.pinned (.plain (OpenSpec.upto exprPrintSpec)) exprPrintUptoCard

/-- THE SECOND FORM's CARD OF 'pllaw3.ExprMoves'. -/
def exprMovesUptoCard : Claim7 := { stood := { row := exprMovesUptoRow, standIns := [], harness := (true, "6e8e81f99d426c840953de0376e0efe1560c096b2c5e75d719ee119155564e78"), looks := true }, kinds := [], alts := [], laidByText := true, laidKinds := [.data, .data, .data], laidTests := true, laidLooks := .later }
def ExprMovesUptoCardSaid : Prop := Claim7.holds Tryd.pinned (.plain (OpenSpec.upto exprMovesSpec)) exprMovesUptoCard

/-- THE SECOND FORM's CARD OF 'pllaw8.DisTells'. -/
def disTellsUptoCard : Claim7 := { stood := { row := disTellsUptoRow, standIns := [], harness := (true, "6e8e81f99d426c840953de0376e0efe1560c096b2c5e75d719ee119155564e78"), looks := true }, kinds := [], alts := [], laidByText := true, laidKinds := [.data, .data, .data, .data, .listed, .data, .pinned], laidTests := true, laidLooks := .later }
def DisTellsUptoCardSaid : Prop := Claim7.holds Tryd.pinned (.plain (OpenSpec.upto disTellsSpec)) disTellsUptoCard

/-- THE SECOND FORM's CARD OF 'pllaw2.ScanTells'. -/
def scanTellsUptoCard : Claim7 := { stood := { row := scanTellsUptoRow, standIns := [], harness := (true, "6e8e81f99d426c840953de0376e0efe1560c096b2c5e75d719ee119155564e78"), looks := true }, kinds := [], alts := [], laidByText := true, laidKinds := [.data, .data, .data, .data, .sentinel, .sentinel, .pinned], laidTests := true, laidLooks := .later }
def ScanTellsUptoCardSaid : Prop := Claim7.holds Tryd.pinned (.plain (OpenSpec.upto scanTellsSpec)) scanTellsUptoCard

/-- THE SECOND FORM's CARD OF 'pllaw2.ScanPrint'. -/
def scanPrintUptoCard : Claim7 := { stood := { row := scanPrintUptoRow, standIns := [], harness := (true, "6e8e81f99d426c840953de0376e0efe1560c096b2c5e75d719ee119155564e78"), looks := true }, kinds := [], alts := [], laidByText := true, laidKinds := [.data, .data, .data, .data, .sentinel, .sentinel, .pinned], laidTests := true, laidLooks := .later }
def ScanPrintUptoCardSaid : Prop := Claim7.holds Tryd.pinned (.plain (OpenSpec.upto scanPrintSpec)) scanPrintUptoCard

/-- THE SECOND FORM's CARD OF 'pllaw2.ScanLines'. -/
def scanLinesUptoCard : Claim7 := { stood := { row := scanLinesUptoRow, standIns := [], harness := (true, "6e8e81f99d426c840953de0376e0efe1560c096b2c5e75d719ee119155564e78"), looks := true }, kinds := [], alts := [], laidByText := true, laidKinds := [.data, .data, .data, .data, .sentinel, .sentinel, .pinned], laidTests := true, laidLooks := .later }
def ScanLinesUptoCardSaid : Prop := Claim7.holds Tryd.pinned (.plain (OpenSpec.upto scanLinesSpec)) scanLinesUptoCard
end Rows
end Go.Proofs.YtdhpodgaeholmaaDoor
